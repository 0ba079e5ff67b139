/- The steps of layer 22's laws, as they came in. -/
import Derived.Test.YtofdcmbjcpfabaaStep03
namespace Go.Proofs.Ytofdcmbjcpfabaa
open Go.Deep Go.ChangeShapes Go.WideShapes

structure St22 where
  act : Int
  key : ByteArray
  who : ByteArray
  time : Int
  lease : Int
  n : Int

namespace St22
theorem cellsR : Try.prog.cellsOf 74 = 6 := by kernel_rfl
theorem cells_uint8 : Try.prog.cellsOf 5 = 1 := by kernel_rfl
theorem cells_string : Try.prog.cellsOf 9 = 1 := by kernel_rfl
theorem cells_int64 : Try.prog.cellsOf 2 = 1 := by kernel_rfl
theorem cells_int : Try.prog.cellsOf 3 = 1 := by kernel_rfl
end St22

def txt22 : Value → ByteArray | .string s => s | _ => ⟨#[]⟩

/-- v is a slice of the steps l. -/
def Steps22 (w : World) (v : Value) (l : List St22) : Prop :=
  ∃ a cap, v = .slice a l.length cap ∧ (l ≠ [] → ∃ b off, a = some ⟨b, off, none⟩ ∧ b < w.heap.size ∧ ∀ j (hj : j < l.length),
    w.cell? ⟨b, off + j * 6, none⟩ = some (.int .u8 l[j].act) ∧ w.cell? ⟨b, off + j * 6 + 1, none⟩ = some (.string l[j].key) ∧ w.cell? ⟨b, off + j * 6 + 2, none⟩ = some (.string l[j].who) ∧ w.cell? ⟨b, off + j * 6 + 3, none⟩ = some (.int .i64 l[j].time) ∧ w.cell? ⟨b, off + j * 6 + 4, none⟩ = some (.int .i64 l[j].lease) ∧ w.cell? ⟨b, off + j * 6 + 5, none⟩ = some (.int .i64 l[j].n) ∧ (Lit.int .u8 l[j].act).wf = true ∧ (l[j].key).size ≤ maxLen ∧ (l[j].who).size ≤ maxLen ∧ (Lit.int .i64 l[j].time).wf = true ∧ (Lit.int .i64 l[j].lease).wf = true ∧ (Lit.int .i64 l[j].n).wf = true)

theorem steps22_of {H : Type} {enc : TypeId × Value → H} {w : World} {base : Nat} {spare : Nat → Bool} {held : Bool} {fuel : Nat} {a : Option Addr} {len cap : Nat} {x : DataW H × List MemPlace}
    (h : DataW.trod enc Try.prog w base spare held fuel 69 [.slice a len cap] = some x) : ∃ l, l.length = len ∧ Steps22 w (.slice a len cap) l := by
  rcases Nat.eq_zero_or_pos len with h0 | h0
  · subst h0
    exact ⟨[], rfl, a, cap, rfl, fun e => absurd rfl e⟩
  obtain ⟨b, off, rfl, hb, hc⟩ := open_recs (k := 6) Try.underlying69 Try.underlying74 St22.cellsR (by omega) (fun j hj => by
    match j, hj with
    | 0, _ => exact ⟨_, rfl, rfl, St22.cells_uint8⟩
    | 1, _ => exact ⟨_, rfl, rfl, St22.cells_string⟩
    | 2, _ => exact ⟨_, rfl, rfl, St22.cells_string⟩
    | 3, _ => exact ⟨_, rfl, rfl, St22.cells_int64⟩
    | 4, _ => exact ⟨_, rfl, rfl, St22.cells_int64⟩
    | 5, _ => exact ⟨_, rfl, rfl, St22.cells_int⟩) h h0
  have each : ∀ i, i < len → w.cell? ⟨b, off + i * 6, none⟩ = some (.int .u8 (num ((w.cell? ⟨b, off + i * 6, none⟩).getD undef))) ∧ w.cell? ⟨b, off + i * 6 + 1, none⟩ = some (.string (txt22 ((w.cell? ⟨b, off + i * 6 + 1, none⟩).getD undef))) ∧ w.cell? ⟨b, off + i * 6 + 2, none⟩ = some (.string (txt22 ((w.cell? ⟨b, off + i * 6 + 2, none⟩).getD undef))) ∧ w.cell? ⟨b, off + i * 6 + 3, none⟩ = some (.int .i64 (num ((w.cell? ⟨b, off + i * 6 + 3, none⟩).getD undef))) ∧ w.cell? ⟨b, off + i * 6 + 4, none⟩ = some (.int .i64 (num ((w.cell? ⟨b, off + i * 6 + 4, none⟩).getD undef))) ∧ w.cell? ⟨b, off + i * 6 + 5, none⟩ = some (.int .i64 (num ((w.cell? ⟨b, off + i * 6 + 5, none⟩).getD undef))) ∧ (Lit.int .u8 (num ((w.cell? ⟨b, off + i * 6, none⟩).getD undef))).wf = true ∧ ((txt22 ((w.cell? ⟨b, off + i * 6 + 1, none⟩).getD undef))).size ≤ maxLen ∧ ((txt22 ((w.cell? ⟨b, off + i * 6 + 2, none⟩).getD undef))).size ≤ maxLen ∧ (Lit.int .i64 (num ((w.cell? ⟨b, off + i * 6 + 3, none⟩).getD undef))).wf = true ∧ (Lit.int .i64 (num ((w.cell? ⟨b, off + i * 6 + 4, none⟩).getD undef))).wf = true ∧ (Lit.int .i64 (num ((w.cell? ⟨b, off + i * 6 + 5, none⟩).getD undef))).wf = true := by
    intro i hi
    obtain ⟨v0, n0, y0, c0, t0⟩ := hc i hi 0 _ (by omega) rfl
    obtain ⟨v1, n1, y1, c1, t1⟩ := hc i hi 1 _ (by omega) rfl
    obtain ⟨v2, n2, y2, c2, t2⟩ := hc i hi 2 _ (by omega) rfl
    obtain ⟨v3, n3, y3, c3, t3⟩ := hc i hi 3 _ (by omega) rfl
    obtain ⟨v4, n4, y4, c4, t4⟩ := hc i hi 4 _ (by omega) rfl
    obtain ⟨v5, n5, y5, c5, t5⟩ := hc i hi 5 _ (by omega) rfl
    obtain ⟨m0, e0, _, w0⟩ := DataW.trod_int Try.underlying5 t0
    obtain ⟨m1, e1, _, w1⟩ := DataW.trod_string Try.underlying9 t1
    obtain ⟨m2, e2, _, w2⟩ := DataW.trod_string Try.underlying9 t2
    obtain ⟨m3, e3, _, w3⟩ := DataW.trod_int Try.underlying2 t3
    obtain ⟨m4, e4, _, w4⟩ := DataW.trod_int Try.underlying2 t4
    obtain ⟨m5, e5, _, w5⟩ := DataW.trod_int Try.underlying3 t5
    simp only [List.cons.injEq, and_true] at e0 e1 e2 e3 e4 e5
    subst e0 e1 e2 e3 e4 e5
    rw [Nat.add_zero] at c0
    rw [← Nat.add_assoc] at c1 c2 c3 c4 c5
    rw [c0, c1, c2, c3, c4, c5]
    exact ⟨rfl, rfl, rfl, rfl, rfl, rfl, w0, w1, w2, w3, w4, w5⟩
  refine ⟨(List.range len).map fun i => ⟨num ((w.cell? ⟨b, off + i * 6, none⟩).getD undef), txt22 ((w.cell? ⟨b, off + i * 6 + 1, none⟩).getD undef), txt22 ((w.cell? ⟨b, off + i * 6 + 2, none⟩).getD undef), num ((w.cell? ⟨b, off + i * 6 + 3, none⟩).getD undef), num ((w.cell? ⟨b, off + i * 6 + 4, none⟩).getD undef), num ((w.cell? ⟨b, off + i * 6 + 5, none⟩).getD undef)⟩, by simp, some ⟨b, off, none⟩, cap, by simp, fun _ => ⟨b, off, rfl, hb, fun j hj => ?_⟩⟩
  have := each j (by simpa using hj)
  simpa using this

theorem Steps22.at {w : World} {v : Value} {l : List St22} (h : Steps22 w v l) {j : Nat} (hj : j < l.length) : ∃ b off cap, v = .slice (some ⟨b, off, none⟩) l.length cap ∧ b < w.heap.size ∧ w.cell? ⟨b, off + j * 6, none⟩ = some (.int .u8 l[j].act) ∧ w.cell? ⟨b, off + j * 6 + 1, none⟩ = some (.string l[j].key) ∧ w.cell? ⟨b, off + j * 6 + 2, none⟩ = some (.string l[j].who) ∧ w.cell? ⟨b, off + j * 6 + 3, none⟩ = some (.int .i64 l[j].time) ∧ w.cell? ⟨b, off + j * 6 + 4, none⟩ = some (.int .i64 l[j].lease) ∧ w.cell? ⟨b, off + j * 6 + 5, none⟩ = some (.int .i64 l[j].n) ∧ (Lit.int .u8 l[j].act).wf = true ∧ (l[j].key).size ≤ maxLen ∧ (l[j].who).size ≤ maxLen ∧ (Lit.int .i64 l[j].time).wf = true ∧ (Lit.int .i64 l[j].lease).wf = true ∧ (Lit.int .i64 l[j].n).wf = true := by
  obtain ⟨a, cap, e, h⟩ := h
  obtain ⟨b, off, rfl, hb, hc⟩ := h (fun e => by subst e; simp at hj)
  exact ⟨b, off, cap, e, hb, hc j hj⟩

theorem Steps22.keep {w w' : World} {v : Value} {l : List St22} (h : Steps22 w v l) {S : Nat → Prop} (hk : Keeps S w w') (hS : ∀ k, k < w.heap.size → ¬ S k) : Steps22 w' v l := by
  obtain ⟨a, cap, rfl, h⟩ := h
  refine ⟨a, cap, rfl, fun hne => ?_⟩
  obtain ⟨b, off, rfl, hb, hc⟩ := h hne
  refine ⟨b, off, rfl, Nat.lt_of_lt_of_le hb hk.size, fun j hj => ?_⟩
  obtain ⟨c0, c1, c2, c3, c4, c5, r⟩ := hc j hj
  exact ⟨(hk.cell (p := ⟨b, off + j * 6, none⟩) hb (hS b hb)).trans c0, (hk.cell (p := ⟨b, off + j * 6 + 1, none⟩) hb (hS b hb)).trans c1, (hk.cell (p := ⟨b, off + j * 6 + 2, none⟩) hb (hS b hb)).trans c2, (hk.cell (p := ⟨b, off + j * 6 + 3, none⟩) hb (hS b hb)).trans c3, (hk.cell (p := ⟨b, off + j * 6 + 4, none⟩) hb (hS b hb)).trans c4, (hk.cell (p := ⟨b, off + j * 6 + 5, none⟩) hb (hS b hb)).trans c5, r⟩

end Go.Proofs.Ytofdcmbjcpfabaa
