/- Rows of numbers. -/
import Derived.Test.YtofdcmbjcpfabaaCmp
namespace Go.Proofs.Ytofdcmbjcpfabaa
open Go.RowKit

/-- A number's one cell. -/
def enc1 (n : Int) : List Value := [.int .i64 n]
theorem enc1_len (n : Int) : (enc1 n).length = 1 := rfl
theorem infoI64 : (Try.prog.info? 2).map (fun i => (i.zero, i.size, i.bytes)) = some (some (.int .i64 0), 1, 8) := by kernel_rfl
theorem infoInt : (Try.prog.info? 3).map (fun i => (i.zero, i.size, i.bytes)) = some (some (.int .i64 0), 1, 8) := by kernel_rfl

theorem RowV.int1 {w : World} {e : TypeId} {v : Value} {l : List Int} (h : RowV w e 1 enc1 v l) {i : Nat} (hi : i < l.length) : ∃ g cap, v = .slice (some ⟨g, 0, none⟩) l.length cap ∧ g < w.heap.size ∧ w.cell? ⟨g, i, none⟩ = some (.int .i64 (l.getD i 0)) := by
  rcases h.form with ⟨_, e2⟩ | ⟨g, cap, rfl⟩
  · subst e2; simp at hi
  · have hr : RowAt w e 1 enc1 g cap l := h
    have := hr.cell enc1_len hi (j := 0) (by omega)
    simp only [Nat.mul_one, Nat.add_zero] at this
    refine ⟨g, cap, rfl, hr.lt, ?_⟩
    rw [this]
    simp [enc1, List.getD, hi]

/-- What the slice of numbers has at k. -/
theorem Ints.at {w : World} {v : Value} {ks : List Int} (h : Ints w v ks) {k : Nat} (hk : k < ks.length) : ∃ b off cap, v = .slice (some ⟨b, off, none⟩) ks.length cap ∧ b < w.heap.size ∧ ∀ j, j < ks.length → w.cell? ⟨b, off + j, none⟩ = some (.int .i64 (ks.getD j 0)) := by
  obtain ⟨a, cap, rfl, h⟩ := h
  obtain ⟨b, off, rfl, h1, h2⟩ := h (fun e => by subst e; simp at hk)
  exact ⟨b, off, cap, rfl, h1, h2⟩

end Go.Proofs.Ytofdcmbjcpfabaa
