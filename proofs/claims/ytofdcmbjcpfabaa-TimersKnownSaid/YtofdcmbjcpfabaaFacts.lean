/- The closed facts of a row. -/
import Derived.Test.YtofdcmbjcpfabaaFactsP
namespace Go.Proofs.Ytofdcmbjcpfabaa

/-- What is asked of a row and the functions that it reaches. -/
noncomputable def rowA (f : FuncId) (c : OpenClaim) : Bool := ((c.inPlace == Try.prog.inPlace f) && (c.unfollowed == Try.prog.unfollowed f) && (c.recurses == Try.prog.recurses f) && (c.named == Try.prog.varsNamed f))

/-- What is asked of a row and its types. -/
noncomputable def rowB (fn : Func) (s : ChangeSpec) (c : OpenClaim) : Bool :=
  (c.wf (OpenSpec.ofChange s) && fn.params.all (Try.prog.readableRec ·) && namedTie Try.prog c.named s.vars && (c.stops == []) && (c.knobs == []) &&
      (c.maps == (fn.params.toList ++ s.plain.varTypes Try.prog).any (Try.prog.mapsRec ·)) && (c.ifaces == (fn.params.toList ++ s.plain.varTypes Try.prog).any (Try.prog.ifacesRec ·)) && (c.mapsOut == Try.prog.mapsAmong fn.resultTypes.toList) &&
      (c.loops == (fn.params.toList ++ s.plain.varTypes Try.prog).any (Try.prog.loopsFrom ·)) && (c.wideKeys == (fn.params.toList ++ s.plain.varTypes Try.prog ++ fn.resultTypes.toList).any (Try.prog.wideKeysFrom ·)) &&
      s.vars.all (Try.prog.varReadable ·) && fn.resultTypes.all (fun t => Try.prog.readableRec t && decide (t < Try.prog.types.size)) && (c.ifacesOut == fn.resultTypes.toList.any (Try.prog.ifacesRec ·)) && (c.loopsOut == fn.resultTypes.toList.any (Try.prog.loopsFrom ·)) &&
      c.shortTexts.isNone && (c.pinned == c.pinnedBy) &&
      (c.veiled == (fn.params.toList ++ s.plain.varTypes Try.prog ++ fn.resultTypes.toList).any (Try.prog.veiledRec ·)) && c.veiledFits Try.prog fn.params.toList (fn.params.toList ++ s.plain.varTypes Try.prog ++ fn.resultTypes.toList))

/-- The closed facts of a row, out of those of the program and those of the row alone. -/
theorem joined_of {f : FuncId} {fn : Func} {s : ChangeSpec} {c : OpenClaim} (hl : c.lifted = Rows.heapTakesRow.lifted) (hm : c.make = Rows.heapTakesRow.make) (hk : c.plainKeys = false)
    (hA : rowA f c = true)
    (hB : rowB fn s c = true)
    (hC : c.kinds = []) (hD : c.domain.isEmpty = true) :
    joinedFacts Try.prog f fn s c = true := by
  unfold joinedFacts
  rw [hl, hm, hk]
  unfold rowA at hA
  unfold rowB at hB
  simp only [Bool.and_eq_true] at hA hB ⊢
  simp only [fact_laid, fact_rowed, fact_stops, fact_knobs, fact_heard, fact_enter, fact_lifts, fact_make, fact_keys, and_true]
  simp only [hA, hB, and_true, true_and]
  rw [hC, hD]
  rfl

end Go.Proofs.Ytofdcmbjcpfabaa
