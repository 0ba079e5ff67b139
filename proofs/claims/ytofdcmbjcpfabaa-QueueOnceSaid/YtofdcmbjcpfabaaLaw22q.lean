/- QueueOnce: held, freed, long; Waits. -/
import Derived.Test.YtofdcmbjcpfabaaLaw22p
import Derived.Test.YtofdcmbjcpfabaaStep22
import Derived.Test.YtofdcmbjcpfabaaIntRow
namespace Go.Proofs.Ytofdcmbjcpfabaa
open Go.RowKit Go.Maps Go.MapKept Go.ChangeMaps
attribute [local go_sem ↓] Go.wp_at_zero Go.wp_at_succ

abbrev Hold := Int × ByteArray
def encH (h : Hold) : List Value := [.int .i64 h.1, .string h.2]
theorem encH_len (h : Hold) : (encH h).length = 2 := rfl
theorem infoH : (Try.prog.info? 76).map (fun i => (i.zero, i.size, i.bytes)) = some (some (.agg #[.int .i64 0, .string ⟨#[]⟩]), 2, 24) := by kernel_rfl

theorem holdsAt {w : World} {v : Value} {hs : List Hold} (h : RowV w 76 2 encH v hs) {i : Nat} (hi : i < hs.length) :
    ∃ g cap, v = .slice (some ⟨g, 0, none⟩) hs.length cap ∧ g < w.heap.size ∧ w.cell? ⟨g, i * 2, none⟩ = some (.int .i64 hs[i].1) ∧ w.cell? ⟨g, i * 2 + 1, none⟩ = some (.string hs[i].2) := by
  rcases h.form with ⟨_, e⟩ | ⟨g, cap, rfl⟩
  · subst e; simp at hi
  · have hr : RowAt w 76 2 encH g cap hs := h
    exact ⟨g, cap, rfl, hr.lt, hr.cell encH_len hi (j := 0) (by omega), hr.cell encH_len hi (j := 1) (by omega)⟩

theorem holdsLen {w : World} {v : Value} {hs : List Hold} (h : RowV w 76 2 encH v hs) : ∃ a cap, v = .slice a hs.length cap := by
  rcases h.form with ⟨e1, e⟩ | ⟨g, cap, e⟩
  · subst e; exact ⟨_, _, e1⟩
  · exact ⟨_, _, e⟩

set_option maxRecDepth 100000 in
set_option maxHeartbeats 2000000 in
theorem held_c {w : World} {v : Value} {hs : List Hold} (hr : RowV w 76 2 encH v hs) (hb : hs.length ≤ 1000000) (tok : Int) :
    Calls Try.prog 45 #[v, .int .i64 tok] w fun e w' => ∃ a, e = .returned (.int .i64 a) ∧ PlaceOf hs tok a ∧ w = w' := by
  obtain ⟨ga, gc, hv⟩ := holdsLen hr
  subst hv
  go_enter Try.func45, Try.ntmps45
  go_wp2_with fail
  go_loopw [5] (fun iv wr => ∃ i : Nat, iv = .int .i64 i ∧ i ≤ hs.length ∧ (∀ m y, m < i → hs[m]? = some y → y.1 ≠ tok) ∧ w = wr) (fun iv _ => hs.length - (intOf iv).toNat)
  case atStart => exact ⟨0, rfl, Nat.zero_le _, fun m y hm => by omega, rfl⟩
  case round =>
    obtain ⟨i, rfl, hi, hno, rfl⟩ := hrel
    have iz : (0 : Int) ≤ i := by omega
    by_cases hlt : (i : Int) < hs.length
    · have hil : i < hs.length := by omega
      obtain ⟨g, cap, ev, hg, k0, k1⟩ := holdsAt hr hil
      cases ev
      obtain ⟨x, hx⟩ : ∃ x, hs[i] = x := ⟨_, rfl⟩
      have hxh : Hid (hs[i]? = some x) := by show _ = _; rw [List.getElem?_eq_getElem hil, hx]
      rw [hx] at k0 k1
      clear hx hr
      by_cases hxn : x.1 = tok
      · subst hxn
        go_wp2_with fail
        go_ret
        exact ⟨i, rfl, .inr ⟨i, hil, rfl, by have := hxh.out; rw [List.getElem?_eq_getElem hil] at this; rw [Option.some.inj this]⟩, rfl⟩
      · have hxn' : decide (x.1 = tok) = false := by simp [hxn]
        have hxq : Hid (¬ x.1 = tok) := hxn
        go_wp2_with fail
        go_roundw
        case rel => exact ⟨i + 1, by go_num, by omega, fun m y hm hy => by
          by_cases e : m = i
          · subst e; rw [hxh.out] at hy; cases hy; exact hxq.out
          · exact hno m y (by omega) hy, trivial⟩
        case measure => simp [intOf]; omega
    · obtain rfl : i = hs.length := by omega
      go_wp2_with fail
      go_ret
      exact ⟨-1, rfl, .inl ⟨rfl, fun x hx => by obtain ⟨m, hm⟩ := List.mem_iff_getElem?.1 hx; exact hno m x (List.getElem?_eq_some_iff.1 hm).1 hm⟩, rfl⟩

/-- What long tells. -/
def LongP (l : List St22) (w : World) (e : Ending) (w' : World) : Prop :=
  ∃ b, e = .returned (.bool b) ∧ (b = false → l.length ≤ 100 ∧ ∀ x ∈ l, x.key.size ≤ 200 ∧ x.who.size ≤ 200) ∧ w = w'

set_option maxRecDepth 100000 in
set_option maxHeartbeats 2000000 in
theorem long22_c {w : World} {v : Value} {l : List St22} (hv : Steps22 w v l) :
    Calls Try.prog 44 #[v] w (LongP l w) := by
  obtain ⟨a, cap, e, _⟩ := id hv
  subst e
  go_enter Try.func44, Try.ntmps44
  go_wp2_with fail
  go_loopw [3] (fun iv wr => ∃ i : Nat, iv = .int .i64 i ∧ i ≤ l.length ∧ i ≤ 100 ∧ (∀ m y, m < i → l[m]? = some y → y.key.size ≤ 200 ∧ y.who.size ≤ 200) ∧ w = wr) (fun iv _ => l.length - (intOf iv).toNat)
  case atStart => exact ⟨0, rfl, Nat.zero_le _, Nat.zero_le _, fun m y hm => by omega, rfl⟩
  case round =>
    obtain ⟨i, rfl, hi, hi2, hno, rfl⟩ := hrel
    have iz : (0 : Int) ≤ i := by omega
    by_cases hlt : (i : Int) < l.length
    · by_cases h100 : (i : Int) < 100
      · have hil : i < l.length := by omega
        obtain ⟨b, off, cap', ev, hbl, c0, c1, c2, c3, c4, c5, _⟩ := hv.at hil
        cases ev
        obtain ⟨x, hx⟩ : ∃ x, l[i] = x := ⟨_, rfl⟩
        have hxh : Hid (l[i]? = some x) := by show _ = _; rw [List.getElem?_eq_getElem hil, hx]
        rw [hx] at c0 c1 c2 c3 c4 c5
        obtain ⟨act, key, who, time, lease, n⟩ := x
        simp only at c0 c1 c2 c3 c4 c5
        clear hx hv
        by_cases h1 : (200 : Int) < key.size
        · go_wp2_with fail
          go_ret
          exact ⟨true, rfl, (fun h => by cases h), rfl⟩
        · by_cases h2 : (200 : Int) < who.size
          · go_wp2_with fail
            go_ret
            exact ⟨true, rfl, (fun h => by cases h), rfl⟩
          · go_wp2_with fail
            go_roundw
            case rel => exact ⟨i + 1, by go_num, by omega, by omega, fun m y hm hy => by
              by_cases e : m = i
              · subst e; rw [hxh.out] at hy; cases hy; exact ⟨by show key.size ≤ 200; omega, by show who.size ≤ 200; omega⟩
              · exact hno m y (by omega) hy, trivial⟩
            case measure => simp [intOf]; omega
      · have hgt : i = 100 := by omega
        subst hgt
        by_cases hl : (100 : Int) < l.length
        · go_wp2_with fail
          go_ret
          exact ⟨true, rfl, (fun h => by cases h), rfl⟩
        · omega
    · obtain rfl : i = l.length := by omega
      have hl : ¬ (100 : Int) < l.length := by omega
      go_wp2_with fail
      go_ret
      exact ⟨false, rfl, fun _ => ⟨by omega, fun x hx => by obtain ⟨m, hm⟩ := List.mem_iff_getElem?.1 hx; exact hno m x (List.getElem?_eq_some_iff.1 hm).1 hm⟩, rfl⟩

def encStr (s : ByteArray) : List Value := [.string s]
theorem encStr_len (s : ByteArray) : (encStr s).length = 1 := rfl
theorem infoStr : (Try.prog.info? 9).map (fun i => (i.zero, i.size, i.bytes)) = some (some (.string ⟨#[]⟩), 1, 16) := by kernel_rfl

/-- The keys of those that wait. -/
def WaitsQ (w : World) (q : QS) (e : Ending) (w' : World) : Prop :=
  ∃ a c, e = .returned (.slice a q.waits.length c) ∧ RowV w' 9 1 encStr (.slice a q.waits.length c) (q.waits.map Task.key) ∧ (∀ b, (Value.slice a q.waits.length c).ownBlock = some b → w.heap.size ≤ b) ∧ Keeps NoBlk w w'

set_option maxRecDepth 100000 in
set_option maxHeartbeats 2000000 in
theorem qwaits_o {w : World} {p : Nat} {S : Nat → Prop} {q : QS} (h : IsQ w p S q) (hbig : q.waits.length ≤ 1000000) :
    Calls Try.prog 65 #[.pointer (some ⟨p, 0, none⟩)] w (WaitsQ w q) := by
  obtain ⟨i0, hi, hz0, hz1, hz2⟩ := info_parts infoStr
  have hln := qlen_o h
  obtain ⟨lv, mo, mt, hr0, ho, _⟩ := h
  go_enter Try.func65, Try.ntmps65
  go_wp2_with fail
  refine hln.mono ?_
  rintro e w1 ⟨rfl, rfl⟩
  go_wp2_with fail
  go_loopw [3, 7] (fun ov iv wr => ∃ (i : Nat) (lo : Value), ov = lo ∧ iv = .int .i64 i ∧ i ≤ q.waits.length ∧ RowV wr 9 1 encStr lo ((q.waits.take i).map Task.key) ∧ (∀ b, lo.ownBlock = some b → w.heap.size ≤ b) ∧ Keeps NoBlk w wr) (fun _ iv _ => q.waits.length - (intOf iv).toNat)
  case atStart => exact ⟨0, _, rfl, rfl, Nat.zero_le _, RowV.nil _ _ _ _, (fun b hb => by cases hb), Keeps.refl _ _⟩
  case round =>
    obtain ⟨i, lo, rfl, rfl, hil, hrow, hfr, hK⟩ := hrel
    have hr := hr0.keep0 hK
    have iz : (0 : Int) ≤ i := by omega
    by_cases hlt : (i : Int) < q.waits.length
    · have hil : i < q.waits.length := by omega
      obtain ⟨_, _, _, c3, _, _⟩ := hr.fields
      obtain ⟨g, cap, rfl, hg, k0⟩ : ∃ g cap, lv = .slice (some ⟨g, 0, none⟩) q.waits.length cap ∧ g < wr.heap.size ∧ wr.cell? ⟨g, i * 4, none⟩ = some (.string q.waits[i].key) := by
        rcases hr.hl.form with ⟨_, e⟩ | ⟨g, cap, rfl⟩
        · rw [e] at hil; simp at hil
        · have hq : RowAt wr 142 4 encTask g cap q.waits := hr.hl
          exact ⟨g, cap, rfl, hq.lt, hq.cell encTask_len hil (j := 0) (by omega)⟩
      obtain ⟨x, hx⟩ : ∃ x, q.waits[i].key = x := ⟨_, rfl⟩
      rw [hx] at k0
      have htk : Hid ((q.waits.take (i + 1)).map Task.key = (q.waits.take i).map Task.key ++ [x]) := by
        show _ = _
        rw [List.take_succ_eq_append_getElem hil, List.map_append, ← hx]; rfl
      have hlen : ((q.waits.take i).map Task.key).length = i := by rw [List.length_map, List.length_take]; omega
      obtain ⟨B, hB⟩ : ∃ B, wr.heap.size = B := ⟨_, rfl⟩
      have hoB : ∀ b, u3.ownBlock = some b → b < wr.heap.size := fun b hb => (World.ownsRow.lt hrow b hb).2
      clear hx hr hr0
      go_wp2_with (at_builtin; refine wpList_append_lies _ (by rfl) (.tmp 10) (.tmp 19) 121 (by rfl) 0 9 i0 (.string ⟨#[]⟩) 1 16 Try.underlying121 hi hz0 hz1 hz2 (by rfl) (by decide) u3 i (((q.waits.take i).map Task.key).flatMap encStr) (by rfl) ?hown ⟨B, 0, none⟩ 1 1 (encStr x) (by rfl) (by rfl) ?news ?h1 (by decide) ?b63 ?bby (Nat.zero_le _) (B + 1) (by simp [hB]) ?k)
      case hown =>
        have := (hrow.at_block (fun b hb => Below.heap_alloc wr (.cells #[.string x] 9) b (hoB b hb)) : RowV _ _ _ _ u3 ((q.waits.take i).map Task.key))
        unfold RowV at this
        rw [hlen] at this
        exact this
      case news =>
        refine World.news_of_block (cs := #[.string x]) (t := 9) (fr := (0, 0)) ?_
        rw [← hB]
        exact (heap_alloc_new _ _).trans (by rfl)
      case h1 => intro u hu; simp [encStr] at hu; rcases hu with rfl; rfl
      case b63 => unfold maxLen; omega
      case bby => omega
      case k =>
        intro g4 cap4 w4 hown hgrow hat hlt4
        have k4 : Keeps (fun k => u3.ownBlock = some k) wr w4 := ((Keeps.refl (fun k => u3.ownBlock = some k) wr).alloc _).grown hgrow (fun k e _ => e)
        have hrow4 : RowV w4 9 1 encStr (.slice (some ⟨g4, 0, none⟩) (i + 1) cap4) ((q.waits.take (i + 1)).map Task.key) := by
          unfold RowV
          rw [htk.out, List.length_append, hlen, List.flatMap_append]
          simpa using hown
        have hK4 : Keeps NoBlk w w4 := hK.trans k4 (fun b hb e => by have := hfr b e; omega)
        have hfr4 : ∀ b, (Value.slice (some ⟨g4, 0, none⟩) (i + 1) cap4).ownBlock = some b → w.heap.size ≤ b := fun b hb => by
          cases hb
          rcases hat with e | e
          · exact hfr _ e
          · have := hK.size; show w.heap.size ≤ g4; omega
        clear hown hgrow hrow k4 hfr hat
        go_wp2_with fail
        go_roundw
        case rel => exact ⟨i + 1, _, rfl, by go_num, by omega, hrow4, hfr4, hK4⟩
        case measure => simp [intOf]; omega
    · obtain rfl : i = q.waits.length := by omega
      rw [List.take_length] at hrow
      obtain ⟨ao, co, rfl⟩ : ∃ ao co, u3 = .slice ao q.waits.length co := by
        rcases hrow.form with ⟨e1, e2⟩ | ⟨b, co, e⟩
        · have : q.waits.length = 0 := by simpa using congrArg List.length e2
          exact ⟨none, 0, by rw [e1, this]⟩
        · rw [List.length_map] at e; exact ⟨_, _, e⟩
      go_wp2_with fail
      go_ret
      exact ⟨ao, co, rfl, hrow, hfr, hK⟩

end Go.Proofs.Ytofdcmbjcpfabaa
