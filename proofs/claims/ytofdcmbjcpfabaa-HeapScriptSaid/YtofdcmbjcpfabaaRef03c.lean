/- Layer 3's reference: Peek, Pop, Remove, Change. -/
import Derived.Test.YtofdcmbjcpfabaaRef03b
namespace Go.Proofs.Ytofdcmbjcpfabaa
open Go.RowKit Go.Maps Go.MapKept Go.ChangeMaps
attribute [local go_sem ↓] Go.wp_at_zero Go.wp_at_succ

/-- What Peek tells. -/
def PeekR (R : List (Thing Int)) (e : Ending) : Prop :=
  (R = [] ∧ e = .returned (.tuple #[.agg #[.int .i64 0, .int .i64 0, .int .i64 0], .bool false])) ∨
  ∃ (j : Nat) (hj : j < R.length), FirstN R R.length j ∧ e = .returned (.tuple #[.agg #[.int .i64 R[j].key, .int .i64 R[j].num, .int .i64 R[j].v], .bool true])

def cells94 (a b c : Int) : Obj := .cells #[.int .i64 a, .int .i64 b, .int .i64 c] 94 (0, 0)

theorem block94 {w : World} {B : Nat} {a b c : Int} (h : w.heap[B]? = some (cells94 a b c)) : w.cell? ⟨B, 0, none⟩ = some (.int .i64 a) ∧ w.cell? ⟨B, 1, none⟩ = some (.int .i64 b) ∧ w.cell? ⟨B, 2, none⟩ = some (.int .i64 c) ∧ w.frozen? ⟨B, 0, none⟩ = false ∧ w.frozen? ⟨B, 1, none⟩ = false ∧ w.frozen? ⟨B, 2, none⟩ = false := by
  unfold cells94 at h
  refine ⟨?_, ?_, ?_, frozen_of_row _ _ _ _ _ h, frozen_of_row _ _ _ _ _ h, frozen_of_row _ _ _ _ _ h⟩ <;> (rw [cell_of_row _ _ _ _ _ _ h]; rfl)

set_option maxRecDepth 100000 in
set_option maxHeartbeats 2000000 in
theorem peek_r {w : World} {p : Nat} {S : Nat → Prop} {R : List (Thing Int)} {next : Int} (h : IsRef w p S R next) (hb : R.length ≤ 1000000) :
    Calls Try.prog 59 #[.pointer (some ⟨p, 0, none⟩)] w fun e w' => PeekR R e ∧ Keeps NoBlk w w' := by
  have hf := fun W (k : Keeps NoBlk w W) => first_r (h.keep k (fun _ _ x => x)) hb
  obtain ⟨B, hB⟩ : ∃ B, w.heap.size = B := ⟨_, rfl⟩
  go_enter Try.func59, Try.ntmps59
  go_wp2_with fail
  refine (hf _ ((Keeps.refl _ _).alloc _)).mono ?_
  rintro e w1 ⟨a, rfl, hF, k1⟩
  have k01 : Keeps NoBlk w w1 := ((Keeps.refl _ _).alloc _).trans k1 (fun _ _ x => x)
  have b1 : w1.heap[B]? = some (cells94 0 0 0) := by
    rw [k1.block B (by simp [← hB]) id, ← hB]; exact (heap_alloc_new _ _).trans (by rfl)
  obtain ⟨x0, x1, x2, y0, y1, y2⟩ := block94 b1
  have kf : ∀ W, Keeps (fun k => k = B) w1 W → Keeps NoBlk w W := fun W hW => k01.trans hW (fun k hk e => by omega)
  clear hf k1
  rcases hF with ⟨h0, rfl⟩ | ⟨j, rfl, x, hx, hjl, h1, h2⟩
  · go_wp2_with fail
    refine bodyPost_ret (v := .tuple #[.agg #[.int .i64 0, .int .i64 0, .int .i64 0], .bool false]) (by simp [results, go_sem, *]) rfl ?_
    refine ⟨.inl ⟨List.length_eq_zero_iff.1 h0, rfl⟩, ?_⟩
    refine kf _ ?_
    first
      | exact Keeps.refl _ _
      | exact (Keeps.refl _ _).setCell (p := ⟨B, 0, none⟩) (fun _ => rfl) _
      | exact ((((Keeps.refl (fun k => k = B) w1).setCell (p := ⟨B, 0, none⟩) (fun _ => rfl) _).setCell (p := ⟨B, 1, none⟩) (fun _ => rfl) _).setCell (p := ⟨B, 2, none⟩) (fun _ => rfl) _)
  · obtain ⟨lv, hr, _⟩ := h.keep k01 (fun _ _ x => x)
    obtain ⟨c0, _⟩ := hr.fields
    obtain ⟨g, cap, rfl, hg, q0, q1, q2⟩ := hr.at hjl
    have hxe : R[j] = x := by rw [List.getElem?_eq_getElem hjl] at hx; exact Option.some.inj hx
    rw [hxe] at q0 q1 q2
    have j0 : (0 : Int) ≤ j := by omega
    have j1 : ¬ (j : Int) < 0 := by omega
    have j2 : (j : Int) < R.length := by omega
    have hF : Hid (FirstN R R.length j) := .inr ⟨j, rfl, x, hx, hjl, h1, h2⟩
    have hxh : Hid (R[j] = x) := hxe
    clear h1 h2 hx hxe hr
    go_wp2_with fail
    refine bodyPost_ret (v := .tuple #[.agg #[.int .i64 x.key, .int .i64 x.num, .int .i64 x.v], .bool true]) (by simp [results, go_sem, *]) rfl ?_
    refine ⟨.inr ⟨j, hjl, hF.out, by rw [hxh.out]⟩, kf _ ?_⟩
    exact ((((Keeps.refl (fun k => k = B) w1).setCell (p := ⟨B, 0, none⟩) (fun _ => rfl) _).setCell (p := ⟨B, 1, none⟩) (fun _ => rfl) _).setCell (p := ⟨B, 2, none⟩) (fun _ => rfl) _)

/-- What Pop does. -/
def PopR (w : World) (p : Nat) (S : Nat → Prop) (R : List (Thing Int)) (next : Int) (e : Ending) (w' : World) : Prop :=
  (R = [] ∧ e = .returned (.tuple #[.agg #[.int .i64 0, .int .i64 0, .int .i64 0], .bool false]) ∧ Keeps NoBlk w w') ∨
  ∃ (j : Nat) (hj : j < R.length), FirstN R R.length j ∧ e = .returned (.tuple #[.agg #[.int .i64 R[j].key, .int .i64 R[j].num, .int .i64 R[j].v], .bool true]) ∧ ∃ S', IsRef w' p S' (R.eraseIdx j) next ∧ Moves S w S' w'

set_option maxRecDepth 100000 in
set_option maxHeartbeats 2000000 in
theorem pop_r {w : World} {p : Nat} {S : Nat → Prop} {R : List (Thing Int)} {next : Int} (h : IsRef w p S R next) (hb : R.length ≤ 1000000) :
    Calls Try.prog 53 #[.pointer (some ⟨p, 0, none⟩)] w (PopR w p S R next) := by
  have hf := fun W (k : Keeps NoBlk w W) => first_r (h.keep k (fun _ _ x => x)) hb
  have ho := fun W (k : Keeps NoBlk w W) => out_r (h.keep k (fun _ _ x => x)) hb
  have hSl := h.lt
  obtain ⟨B, hB⟩ : ∃ B, w.heap.size = B := ⟨_, rfl⟩
  go_enter Try.func53, Try.ntmps53
  go_wp2_with fail
  refine (hf _ ((Keeps.refl _ _).alloc _)).mono ?_
  rintro e w1 ⟨a, rfl, hF, k1⟩
  have k01 : Keeps NoBlk w w1 := ((Keeps.refl _ _).alloc _).trans k1 (fun _ _ x => x)
  have b1 : w1.heap[B]? = some (cells94 0 0 0) := by
    rw [k1.block B (by simp [← hB]) id, ← hB]; exact (heap_alloc_new _ _).trans (by rfl)
  clear hf k1
  rcases hF with ⟨h0, rfl⟩ | ⟨j, rfl, x, hx, hjl, h1, h2⟩
  · obtain ⟨x0, x1, x2, y0, y1, y2⟩ := block94 b1
    have kf : ∀ W, Keeps (fun k => k = B) w1 W → Keeps NoBlk w W := fun W hW => k01.trans hW (fun k hk e => by omega)
    go_wp2_with fail
    refine bodyPost_ret (v := .tuple #[.agg #[.int .i64 0, .int .i64 0, .int .i64 0], .bool false]) (by simp [results, go_sem, *]) rfl ?_
    refine .inl ⟨List.length_eq_zero_iff.1 h0, rfl, kf _ ?_⟩
    exact ((((Keeps.refl (fun k => k = B) w1).setCell (p := ⟨B, 0, none⟩) (fun _ => rfl) _).setCell (p := ⟨B, 1, none⟩) (fun _ => rfl) _).setCell (p := ⟨B, 2, none⟩) (fun _ => rfl) _)
  · obtain ⟨lv, hr, _⟩ := h.keep k01 (fun _ _ x => x)
    obtain ⟨c0, _⟩ := hr.fields
    obtain ⟨g, cap, rfl, hg, q0, q1, q2⟩ := hr.at hjl
    have hxe : R[j] = x := by rw [List.getElem?_eq_getElem hjl] at hx; exact Option.some.inj hx
    rw [hxe] at q0 q1 q2
    have j0 : (0 : Int) ≤ j := by omega
    have j1 : ¬ (j : Int) < 0 := by omega
    have j2 : (j : Int) < R.length := by omega
    have hF : Hid (FirstN R R.length j) := .inr ⟨j, rfl, x, hx, hjl, h1, h2⟩
    have hxh : Hid (R[j] = x) := hxe
    clear h1 h2 hx hxe hr
    obtain ⟨C, hC⟩ : ∃ C, w1.heap.size = C := ⟨_, rfl⟩
    go_wp2_with fail
    have k2 : Keeps NoBlk w (w1.alloc (.cells #[.int .i64 x.key, .int .i64 x.num, .int .i64 x.v] 94)) := k01.alloc _
    have hout := ho _ k2 j hjl
    refine hout.mono ?_
    rintro e w3 ⟨rfl, S3, h3, m3⟩
    have hBl : B < w1.heap.size := block_lt b1
    have nS : ∀ k, w.heap.size ≤ k → ¬ S k := fun k hk hs => by have := hSl k hs; omega
    have b3 : w3.heap[B]? = some (cells94 0 0 0) := by
      rw [m3.keeps.block B (by simp; omega) (nS B (by omega)), Below.heap_alloc _ _ _ hBl]; exact b1
    have b4 : w3.heap[C]? = some (cells94 x.key x.num x.v) := by
      rw [m3.keeps.block C (by simp [← hC]) (nS C (by omega)), ← hC]; exact (heap_alloc_new _ _).trans (by rfl)
    obtain ⟨x0, x1, x2, y0, y1, y2⟩ := block94 b3
    obtain ⟨z0, z1, z2, _, _, _⟩ := block94 b4
    have hBC : ¬ B = C := by omega
    have hfin : ∀ W, Keeps (fun k => k = B) w3 W → ∃ S', IsRef W p S' (R.eraseIdx j) next ∧ Moves S w S' W := fun W hW => by
      have hS3B : ¬ S3 B := fun e => by
        rcases m3.foot B e with e | e
        · exact nS B (by omega) e
        · simp at e; omega
      refine ⟨S3, h3.keep hW (fun k hk e => hS3B (e ▸ hk)), (k2.of_none.trans m3.keeps (fun k hk e => e)).trans hW (fun k hk e => by omega), fun k hk => ?_⟩
      rcases m3.foot k hk with e | e
      · exact .inl e
      · exact .inr (Nat.le_trans k2.size e)
    clear hout ho q0 q1 q2 c0
    go_wp2_with fail
    refine bodyPost_ret (v := .tuple #[.agg #[.int .i64 x.key, .int .i64 x.num, .int .i64 x.v], .bool true]) (by simp [results, go_sem, *]) rfl ?_
    refine .inr ⟨j, hjl, hF.out, by rw [hxh.out], hfin _ ?_⟩
    exact ((((Keeps.refl (fun k => k = B) w3).setCell (p := ⟨B, 0, none⟩) (fun _ => rfl) _).setCell (p := ⟨B, 1, none⟩) (fun _ => rfl) _).setCell (p := ⟨B, 2, none⟩) (fun _ => rfl) _)

/-- What Remove does. -/
def RemR (w : World) (p : Nat) (S : Nat → Prop) (R : List (Thing Int)) (next n : Int) (e : Ending) (w' : World) : Prop :=
  ((∀ x ∈ R, x.num ≠ n) ∧ e = .returned (.tuple #[.int .i64 0, .bool false]) ∧ w = w') ∨
  ∃ (j : Nat) (hj : j < R.length), R[j].num = n ∧ e = .returned (.tuple #[.int .i64 R[j].v, .bool true]) ∧ ∃ S', IsRef w' p S' (R.eraseIdx j) next ∧ Moves S w S' w'

set_option maxRecDepth 100000 in
set_option maxHeartbeats 2000000 in
theorem remove_r {w : World} {p : Nat} {S : Nat → Prop} {R : List (Thing Int)} {next : Int} (h : IsRef w p S R next) (hb : R.length ≤ 1000000) (n : Int) :
    Calls Try.prog 54 #[.pointer (some ⟨p, 0, none⟩), .int .i64 n] w (RemR w p S R next n) := by
  have hf := find_r h hb n
  have ho := out_r h hb
  obtain ⟨lv, hr, _⟩ := h
  obtain ⟨c0, _⟩ := hr.fields
  go_enter Try.func54, Try.ntmps54
  go_wp2_with fail
  refine hf.mono ?_
  rintro e w1 ⟨a, rfl, hF, rfl⟩
  rcases hF with ⟨rfl, hno⟩ | ⟨j, hjl, rfl, hjn⟩
  · go_wp2_with fail
    go_ret2
    exact .inl ⟨hno, rfl, rfl⟩
  · obtain ⟨g, cap, rfl, hg, q0, q1, q2⟩ := hr.at hjl
    obtain ⟨x, hx⟩ : ∃ x, R[j] = x := ⟨_, rfl⟩
    have hxh : Hid (R[j] = x) := hx
    rw [hx] at q0 q1 q2 hjn
    have hjh : Hid (x.num = n) := hjn
    have j0 : (0 : Int) ≤ j := by omega
    have j1 : ¬ (j : Int) < 0 := by omega
    have j2 : (j : Int) < R.length := by omega
    have hout := ho j hjl
    clear hx hr hjn hf ho
    go_wp2_with fail
    refine hout.mono ?_
    rintro e w3 ⟨rfl, S3, h3, m3⟩
    go_wp2_with fail
    refine bodyPost_ret (v := .tuple #[.int .i64 x.v, .bool true]) (by simp [results, go_sem]) rfl ?_
    exact .inr ⟨j, hjl, by rw [hxh.out]; exact hjh.out, by rw [hxh.out], S3, h3, m3⟩

end Go.Proofs.Ytofdcmbjcpfabaa
