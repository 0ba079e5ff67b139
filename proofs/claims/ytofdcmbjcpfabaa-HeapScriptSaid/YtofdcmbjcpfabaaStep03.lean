/- The steps of HeapScript, as they came in. -/
import Derived.Test.YtofdcmbjcpfabaaOpenS
import Derived.Test.YtofdcmbjcpfabaaCmp
namespace Go.Proofs.Ytofdcmbjcpfabaa
open Go.Deep Go.ChangeShapes Go.WideShapes

structure St03 where
  act : Int
  key : Int
  n : Int

theorem St03.cells91 : Try.prog.cellsOf 91 = 3 := by kernel_rfl
theorem St03.cells5 : Try.prog.cellsOf 5 = 1 := by kernel_rfl
theorem St03.cells2 : Try.prog.cellsOf 2 = 1 := by kernel_rfl
theorem St03.cells3 : Try.prog.cellsOf 3 = 1 := by kernel_rfl

/-- v is a slice of the steps l. -/
def Steps03 (w : World) (v : Value) (l : List St03) : Prop :=
  ∃ a cap, v = .slice a l.length cap ∧ (l ≠ [] → ∃ b off, a = some ⟨b, off, none⟩ ∧ b < w.heap.size ∧ ∀ j (hj : j < l.length),
    w.cell? ⟨b, off + j * 3, none⟩ = some (.int .u8 l[j].act) ∧ w.cell? ⟨b, off + j * 3 + 1, none⟩ = some (.int .i64 l[j].key) ∧ w.cell? ⟨b, off + j * 3 + 2, none⟩ = some (.int .i64 l[j].n) ∧
    (Lit.int .u8 l[j].act).wf = true ∧ (Lit.int .i64 l[j].key).wf = true ∧ (Lit.int .i64 l[j].n).wf = true)

def num : Value → Int | .int _ n => n | _ => 0

theorem steps03_of {H : Type} {enc : TypeId × Value → H} {w : World} {base : Nat} {spare : Nat → Bool} {held : Bool} {fuel : Nat} {a : Option Addr} {len cap : Nat} {x : DataW H × List MemPlace}
    (h : DataW.trod enc Try.prog w base spare held fuel 84 [.slice a len cap] = some x) : ∃ l, l.length = len ∧ Steps03 w (.slice a len cap) l := by
  rcases Nat.eq_zero_or_pos len with h0 | h0
  · subst h0
    exact ⟨[], rfl, a, cap, rfl, fun e => absurd rfl e⟩
  obtain ⟨b, off, rfl, hb, hc⟩ := open_recs (k := 3) Try.underlying84 Try.underlying91 St03.cells91 (by omega) (fun j hj => by
    match j, hj with
    | 0, _ => exact ⟨_, rfl, rfl, St03.cells5⟩
    | 1, _ => exact ⟨_, rfl, rfl, St03.cells2⟩
    | 2, _ => exact ⟨_, rfl, rfl, St03.cells3⟩) h h0
  have each : ∀ i, i < len → w.cell? ⟨b, off + i * 3, none⟩ = some (.int .u8 (num ((w.cell? ⟨b, off + i * 3, none⟩).getD undef))) ∧ w.cell? ⟨b, off + i * 3 + 1, none⟩ = some (.int .i64 (num ((w.cell? ⟨b, off + i * 3 + 1, none⟩).getD undef))) ∧ w.cell? ⟨b, off + i * 3 + 2, none⟩ = some (.int .i64 (num ((w.cell? ⟨b, off + i * 3 + 2, none⟩).getD undef))) ∧
      (Lit.int .u8 (num ((w.cell? ⟨b, off + i * 3, none⟩).getD undef))).wf = true ∧ (Lit.int .i64 (num ((w.cell? ⟨b, off + i * 3 + 1, none⟩).getD undef))).wf = true ∧ (Lit.int .i64 (num ((w.cell? ⟨b, off + i * 3 + 2, none⟩).getD undef))).wf = true := by
    intro i hi
    obtain ⟨v0, n0, y0, c0, t0⟩ := hc i hi 0 _ (by omega) rfl
    obtain ⟨v1, n1, y1, c1, t1⟩ := hc i hi 1 _ (by omega) rfl
    obtain ⟨v2, n2, y2, c2, t2⟩ := hc i hi 2 _ (by omega) rfl
    obtain ⟨m0, e0, _, w0⟩ := DataW.trod_int Try.underlying5 t0
    obtain ⟨m1, e1, _, w1⟩ := DataW.trod_int Try.underlying2 t1
    obtain ⟨m2, e2, _, w2⟩ := DataW.trod_int Try.underlying3 t2
    simp only [List.cons.injEq, and_true] at e0 e1 e2
    subst e0 e1 e2
    rw [Nat.add_zero] at c0
    rw [← Nat.add_assoc] at c1 c2
    rw [c0, c1, c2]
    exact ⟨rfl, rfl, rfl, w0, w1, w2⟩
  refine ⟨(List.range len).map fun i => ⟨num ((w.cell? ⟨b, off + i * 3, none⟩).getD undef), num ((w.cell? ⟨b, off + i * 3 + 1, none⟩).getD undef), num ((w.cell? ⟨b, off + i * 3 + 2, none⟩).getD undef)⟩, by simp, some ⟨b, off, none⟩, cap, by simp, fun _ => ⟨b, off, rfl, hb, fun j hj => ?_⟩⟩
  have := each j (by simpa using hj)
  simpa using this

theorem Steps03.at {w : World} {v : Value} {l : List St03} (h : Steps03 w v l) {j : Nat} (hj : j < l.length) : ∃ b off cap, v = .slice (some ⟨b, off, none⟩) l.length cap ∧ b < w.heap.size ∧
    w.cell? ⟨b, off + j * 3, none⟩ = some (.int .u8 l[j].act) ∧ w.cell? ⟨b, off + j * 3 + 1, none⟩ = some (.int .i64 l[j].key) ∧ w.cell? ⟨b, off + j * 3 + 2, none⟩ = some (.int .i64 l[j].n) ∧
    (Lit.int .u8 l[j].act).wf = true ∧ (Lit.int .i64 l[j].key).wf = true ∧ (Lit.int .i64 l[j].n).wf = true := by
  obtain ⟨a, cap, e, h⟩ := h
  obtain ⟨b, off, rfl, hb, hc⟩ := h (fun e => by subst e; simp at hj)
  exact ⟨b, off, cap, e, hb, hc j hj⟩

end Go.Proofs.Ytofdcmbjcpfabaa
