/- Slices of numbers that came in, as the row's step hands them on. -/
import Derived.Test.YtofdcmbjcpfabaaKit
namespace Go.Proofs.Ytofdcmbjcpfabaa

theorem ints_of_row {w : World} {a : Option Addr} {len cap : Nat} {zs : List Int}
    (h : (a = none ∧ len = 0 ∧ cap = 0 ∧ zs = []) ∨ ∃ x, a = some x ∧ len ≤ cap ∧ cap ≤ maxLen ∧ zs.length = cap ∧ (∀ i, i < zs.length → w.cell? (x.add i) = some (.int .i64 (zs.getD i 0))) ∧ ∀ n ∈ zs, (Lit.int .i64 n).wf = true) :
    Ints w (.slice a len cap) (zs.take len) ∧ ∀ n ∈ zs.take len, (Lit.int .i64 n).wf = true := by
  rcases h with ⟨rfl, rfl, rfl, rfl⟩ | ⟨x, rfl, hl, _, hz, hc, hw⟩
  · exact ⟨⟨none, 0, rfl, fun h => absurd rfl h⟩, by simp⟩
  · have hlen : (zs.take len).length = len := by simp; omega
    refine ⟨⟨some x, cap, by rw [hlen], fun hne => ?_⟩, fun n hn => hw n (List.mem_of_mem_take hn)⟩
    have h0 : 0 < len := by
      rcases Nat.eq_zero_or_pos len with h | h
      · subst h; simp at hne
      · exact h
    obtain ⟨b, off, spot⟩ := x
    have c0 := hc 0 (by omega)
    have hs : spot = none ∧ b < w.heap.size := by
      unfold Addr.add at c0
      simp only [if_true] at c0
      unfold World.cell? at c0
      split at c0
      · rename_i hb
        split at c0
        · cases c0
        · rename_i hs
          exact ⟨by simpa using hs, block_lt hb⟩
      · cases c0
    obtain ⟨rfl, hb⟩ := hs
    refine ⟨b, off, rfl, hb, fun j hj => ?_⟩
    rw [hlen] at hj
    have := hc j (by omega)
    unfold Addr.add at this
    have e : (zs.take len).getD j 0 = zs.getD j 0 := by
      rw [List.getD_eq_getElem?_getD, List.getD_eq_getElem?_getD, List.getElem?_take, if_pos hj]
    rw [e]
    split at this
    · rename_i h; subst h; exact this
    · exact this

theorem wf_i64_lo {n : Int} (h : (Lit.int .i64 n).wf = true) : -9223372036854775808 ≤ n ∧ n ≤ 9223372036854775807 := by
  have : IntKind.i64.min = -9223372036854775808 := by rfl
  have : IntKind.i64.max = 9223372036854775807 := by rfl
  simp only [Lit.wf, Bool.and_eq_true, decide_eq_true_eq] at h
  omega

theorem getD_all {zs : List Int} {P : Int → Prop} (h : ∀ n ∈ zs, P n) (j : Nat) (hj : j < zs.length) : P (zs.getD j 0) := by
  rw [List.getD_eq_getElem?_getD, List.getElem?_eq_getElem hj]
  exact h _ (List.getElem_mem hj)

end Go.Proofs.Ytofdcmbjcpfabaa
