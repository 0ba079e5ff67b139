/- Slices of records that came in. -/
import Derived.Test.YtofdcmbjcpfabaaKit
import Derived.Deep.Strs
import Derived.Deep.Slices
namespace Go.Proofs.Ytofdcmbjcpfabaa
open Go.Deep Go.ChangeShapes Go.WideShapes

section
variable {H : Type} {enc : TypeId × Value → H} {P : Program} {w : World} {base : Nat} {spare : Nat → Bool} {held : Bool}

/-- A slice of records whose fields are one cell each: every cell is there, and reads by its field's type. -/
theorem open_recs {t e : TypeId} {fs : Array Field} {k fuel : Nat} {a : Option Addr} {len cap : Nat} {x : DataW H × List MemPlace} (ht : P.underlying t = some (.slice e)) (he : P.underlying e = some (.struct fs)) (ce : P.cellsOf e = k) (hk : 0 < k)
    (hof : ∀ j, j < k → ∃ f, fs[j]? = some f ∧ f.offset = j ∧ P.cellsOf f.type = 1) (h : DataW.trod enc P w base spare held fuel t [.slice a len cap] = some x) (h0 : 0 < len) :
    ∃ b off, a = some ⟨b, off, none⟩ ∧ b < w.heap.size ∧ ∀ i, i < len → ∀ j f, j < k → fs[j]? = some f → ∃ v n y, w.cell? ⟨b, off + (i * k + j), none⟩ = some v ∧ DataW.trod enc P w base spare held n f.type [v] = some y := by
  rcases open_slice ht h with ⟨hc, _⟩ | ⟨a', len', cap', m, n, D, Pl, hc, hb, hl, hm, hmm, rfl, hx⟩
  · simp only [List.cons.injEq, and_true, Value.slice.injEq] at hc
    omega
  · simp only [List.cons.injEq, and_true, Value.slice.injEq] at hc
    obtain ⟨rfl, rfl, rfl⟩ := hc
    have hlm : len ≤ m := by rw [hmm]; split <;> omega
    have cellAt : ∀ i, i < len → ∀ j f, j < k → fs[j]? = some f → ∃ v n y, w.cell? (a'.add (i * k + j)) = some v ∧ DataW.trod enc P w base spare held n f.type [v] = some y := by
      intro i hi j f hj hf
      obtain ⟨cs', h1, h2⟩ := hx i (by omega)
      rw [ce] at h1
      obtain ⟨_, hlen, hcell⟩ := World.cells?_some h1
      obtain ⟨xs, n', _, _, _, hxl, hfs⟩ := DataW.trod_struct he h2
      obtain ⟨f', hf', ho, hc1⟩ := hof j hj
      obtain rfl : f' = f := by rw [hf] at hf'; exact (Option.some.inj hf').symm
      have hcj := hcell j hj
      rw [add_add, List.getElem?_eq_getElem (by omega)] at hcj
      have hg := hfs j f' hf'
      rw [ho, hc1] at hg
      have h3 : (cs'.drop j).take 1 = [cs'[j]] := by
        rw [List.drop_eq_getElem_cons (by omega)]; rfl
      rw [h3] at hg
      have hjx : j < xs.length := by
        have := (Array.getElem?_eq_some_iff.1 hf').1
        omega
      rw [List.getElem?_eq_getElem hjx] at hg
      exact ⟨_, _, _, hcj, hg⟩
    obtain ⟨f, hf, _, _⟩ := hof 0 hk
    obtain ⟨v, _, _, hv, _⟩ := cellAt 0 h0 0 f hk hf
    obtain ⟨b, off, spot⟩ := a'
    have hspot : spot = none := by simpa [Addr.add] using World.cell?_spot hv
    subst hspot
    refine ⟨b, off, rfl, ?_, fun i hi j f hj hf => ?_⟩
    · rw [add_plain] at hv
      unfold World.cell? at hv
      split at hv
      · rename_i hb; exact block_lt hb
      · cases hv
    · obtain ⟨v, n, y, h1, h2⟩ := cellAt i hi j f hj hf
      rw [add_plain] at h1
      exact ⟨v, n, y, h1, h2⟩
end

end Go.Proofs.Ytofdcmbjcpfabaa
