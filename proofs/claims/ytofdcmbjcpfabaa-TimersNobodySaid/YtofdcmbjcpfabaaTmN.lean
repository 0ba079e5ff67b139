/- Tables that nobody made: TimersNobody. -/
import Derived.Test.YtofdcmbjcpfabaaLaw21a
namespace Go.Proofs.Ytofdcmbjcpfabaa
open Go.RowKit Go.Maps Go.MapKept Go.ChangeMaps
attribute [local go_sem ↓] Go.wp_at_zero Go.wp_at_succ

/-- A pointer to no table, or to one without a heap. -/
def NobodyT (w : World) (p : Option Addr) : Prop := p = none ∨ ∃ b, p = some ⟨b, 0, none⟩ ∧ w.cell? ⟨b, 0, none⟩ = some (.pointer none)

/-- The same answer, the world as it was. -/
def Same1 (w : World) (v : Value) (e : Ending) (w' : World) : Prop := e = .returned v ∧ w = w'

section
variable {w : World} {p : Option Addr}

theorem nmade_c (h : NobodyT w p) : Calls Try.prog 98 #[.pointer p] w fun e w' => e = .returned (.bool false) ∧ w = w' := by
  rcases h with rfl | ⟨b, rfl, h⟩
  · go_enter Try.func98, Try.ntmps98
    go_wp2
    go_ret
    exact ⟨rfl, rfl⟩
  · go_enter Try.func98, Try.ntmps98
    go_wp2
    go_ret
    exact ⟨rfl, rfl⟩

theorem nnext_c (h : NobodyT w p) : Calls Try.prog 35 #[.pointer p] w fun e w' => e = .returned (.tuple #[.int .i64 0, .bool false]) ∧ w = w' := by
  have hm := nmade_c h
  clear h
  go_enter Try.func35, Try.ntmps35
  go_wp2_with fail
  refine hm.mono ?_
  rintro e w1 ⟨rfl, rfl⟩
  go_wp2_with fail
  go_ret2
  exact ⟨rfl, rfl⟩

theorem nset_c (h : NobodyT w p) (due : Int) (o : ByteArray) (i : Int) : Calls Try.prog 60 #[.pointer p, .int .i64 due, .string o, .int .i64 i] w fun e w' => e = .returned (.int .i64 1) ∧ w = w' := by
  have hm := nmade_c h
  clear h
  go_enter Try.func60, Try.ntmps60
  go_wp2_with fail
  refine hm.mono ?_
  rintro e w1 ⟨rfl, rfl⟩
  go_wp2_with fail
  go_ret
  exact ⟨rfl, rfl⟩

theorem ndrop_c (h : NobodyT w p) (o : ByteArray) (i : Int) : Calls Try.prog 40 #[.pointer p, .string o, .int .i64 i] w fun e w' => e = .returned (.bool false) ∧ w = w' := by
  have hm := nmade_c h
  clear h
  go_enter Try.func40, Try.ntmps40
  go_wp2_with fail
  refine hm.mono ?_
  rintro e w1 ⟨rfl, rfl⟩
  go_wp2_with fail
  go_ret
  exact ⟨rfl, rfl⟩

theorem nall_c (h : NobodyT w p) : Calls Try.prog 61 #[.pointer p] w fun e w' => e = .returned (.slice none 0 0) ∧ w = w' := by
  have hm := nmade_c h
  clear h
  go_enter Try.func61, Try.ntmps61
  go_wp2_with fail
  refine hm.mono ?_
  rintro e w1 ⟨rfl, rfl⟩
  go_wp2_with fail
  go_ret
  exact ⟨rfl, rfl⟩

theorem nlen_c (h : NobodyT w p) : Calls Try.prog 36 #[.pointer p] w fun e w' => e = .returned (.int .i64 0) ∧ w = w' := by
  have hm := nmade_c h
  clear h
  go_enter Try.func36, Try.ntmps36
  go_wp2_with fail
  refine hm.mono ?_
  rintro e w1 ⟨rfl, rfl⟩
  go_wp2_with fail
  go_ret
  exact ⟨rfl, rfl⟩

theorem ntwin_c (h : NobodyT w p) : Calls Try.prog 42 #[.pointer p] w fun e w' => e = .returned (.pointer none) ∧ w = w' := by
  have hm := nmade_c h
  clear h
  go_enter Try.func42, Try.ntmps42
  go_wp2_with fail
  refine hm.mono ?_
  rintro e w1 ⟨rfl, rfl⟩
  go_wp2_with fail
  go_ret
  exact ⟨rfl, rfl⟩

theorem nbytes_c (h : NobodyT w p) : Calls Try.prog 62 #[.pointer p] w fun e w' => e = .returned (.slice none 0 0) ∧ w = w' := by
  have hm := nmade_c h
  clear h
  go_enter Try.func62, Try.ntmps62
  go_wp2_with fail
  refine hm.mono ?_
  rintro e w1 ⟨rfl, rfl⟩
  go_wp2_with fail
  go_ret
  exact ⟨rfl, rfl⟩

set_option maxHeartbeats 1000000 in
theorem ndropAll_c (h : NobodyT w p) (o : ByteArray) : Calls Try.prog 41 #[.pointer p, .string o] w fun e w' => e = .returned (.int .i64 0) ∧ w = w' := by
  have hm := nall_c h
  clear h
  go_enter Try.func41, Try.ntmps41
  go_wp2_with fail
  refine hm.mono ?_
  rintro e w1 ⟨rfl, rfl⟩
  go_wp2_with fail
  refine wp_loop_rounds 1 ?_
  rw [rounds_succ]
  go_wp2_with fail
  go_ret
  exact ⟨rfl, rfl⟩

set_option maxRecDepth 100000 in
set_option maxHeartbeats 1000000 in
theorem ndue_c (h : NobodyT w p) (now : Int) : Calls Try.prog 34 #[.pointer p, .int .i64 now] w fun e w' => e = .returned (.slice none 0 0) ∧ w = w' := by
  have hm := nnext_c h
  clear h
  go_enter Try.func34, Try.ntmps34
  go_wp2_with fail
  refine hm.mono ?_
  rintro e w1 ⟨rfl, rfl⟩
  go_wp2_with fail
  refine wp_loop_rounds 1 ?_
  rw [rounds_succ]
  go_wp2_with fail
  go_ret
  exact ⟨rfl, rfl⟩
end

set_option maxRecDepth 100000 in
set_option maxHeartbeats 4000000 in
theorem nobody21_c (w : World) (now : Int) (o : ByteArray) (i : Int) : Calls Try.prog 12 #[.int .i64 now, .string o, .int .i64 i] w fun e w' => e = .returned (.bool true) ∧ Below w.heap.size w w' := by
  go_enter Try.func12, Try.ntmps12
  go_wp2_with fail
  obtain ⟨B, hB⟩ : ∃ B, w.heap.size = B := ⟨_, rfl⟩
  refine name_world ?_
  intro w1 hw1
  have hC : w1.cell? ⟨B, 0, none⟩ = some (.pointer none) := by
    have : w1.heap[B]? = some (.cells #[.pointer none, .map none] 108 (0, 0)) := by
      subst hw1 hB
      rw [Below.heap_alloc _ _ _ (by simp)]
      exact heap_alloc_new _ _
    rw [cell_of_row _ _ _ _ _ _ this]; rfl
  have hL : w1.cell? ⟨B + 1, 0, none⟩ = some (.pointer none) ∧ w1.cell? ⟨B + 1, 1, none⟩ = some (.pointer (some ⟨B, 0, none⟩)) := by
    have : w1.heap[B + 1]? = some (.cells #[.pointer none, .pointer (some ⟨B, 0, none⟩)] 109 (0, 0)) := by
      subst hw1 hB
      have := heap_alloc_new (w.alloc (.cells #[.pointer none, .map none] 108)) (.cells #[.pointer none, .pointer (some ⟨w.heap.size, 0, none⟩)] 109)
      simpa using this
    exact ⟨by rw [cell_of_row _ _ _ _ _ _ this]; rfl, by rw [cell_of_row _ _ _ _ _ _ this]; rfl⟩
  have hK : Keeps NoBlk w w1 := by subst hw1; exact ((Keeps.refl _ _).alloc _).alloc _
  rw [hB]
  clear hw1
  go_loopw [10] (fun iv wr => ∃ k : Nat, iv = .int .i64 k ∧ k ≤ 2 ∧ wr.cell? ⟨B, 0, none⟩ = some (.pointer none) ∧ (wr.cell? ⟨B + 1, 0, none⟩ = some (.pointer none) ∧ wr.cell? ⟨B + 1, 1, none⟩ = some (.pointer (some ⟨B, 0, none⟩))) ∧ Keeps NoBlk w wr) (fun iv _ => 2 - (intOf iv).toNat)
  case atStart => exact ⟨0, rfl, by omega, hC, hL, hK⟩
  case round =>
    clear hC hL hK
    obtain ⟨k, rfl, hk, hC, hL, hK⟩ := hrel
    obtain ⟨hL0, hL1⟩ := id hL
    rcases (by omega : k = 0 ∨ k = 1 ∨ k = 2) with rfl | rfl | rfl
    · have hN : NobodyT wr none := .inl rfl
      go_wp2_with (first
      | (go_at_call 35; (with_reducible refine (nnext_c hN).mono ?_); rintro e w' ⟨rfl, rfl⟩)
      | (go_at_call 60; (with_reducible refine (nset_c hN _ _ _).mono ?_); rintro e w' ⟨rfl, rfl⟩)
      | (go_at_call 40; (with_reducible refine (ndrop_c hN _ _).mono ?_); rintro e w' ⟨rfl, rfl⟩)
      | (go_at_call 41; (with_reducible refine (ndropAll_c hN _).mono ?_); rintro e w' ⟨rfl, rfl⟩)
      | (go_at_call 34; (with_reducible refine (ndue_c hN _).mono ?_); rintro e w' ⟨rfl, rfl⟩)
      | (go_at_call 36; (with_reducible refine (nlen_c hN).mono ?_); rintro e w' ⟨rfl, rfl⟩)
      | (go_at_call 61; (with_reducible refine (nall_c hN).mono ?_); rintro e w' ⟨rfl, rfl⟩)
      | (go_at_call 42; (with_reducible refine (ntwin_c hN).mono ?_); rintro e w' ⟨rfl, rfl⟩)
      | (go_at_call 62; (with_reducible refine (nbytes_c hN).mono ?_); rintro e w' ⟨rfl, rfl⟩))
      go_roundw
      case rel => exact ⟨1, by go_num, by omega, hC, hL, hK⟩
      case measure => simp [intOf]
    · have hN : NobodyT wr (some ⟨B, 0, none⟩) := .inr ⟨B, rfl, hC⟩
      go_wp2_with (first
      | (go_at_call 35; (with_reducible refine (nnext_c hN).mono ?_); rintro e w' ⟨rfl, rfl⟩)
      | (go_at_call 60; (with_reducible refine (nset_c hN _ _ _).mono ?_); rintro e w' ⟨rfl, rfl⟩)
      | (go_at_call 40; (with_reducible refine (ndrop_c hN _ _).mono ?_); rintro e w' ⟨rfl, rfl⟩)
      | (go_at_call 41; (with_reducible refine (ndropAll_c hN _).mono ?_); rintro e w' ⟨rfl, rfl⟩)
      | (go_at_call 34; (with_reducible refine (ndue_c hN _).mono ?_); rintro e w' ⟨rfl, rfl⟩)
      | (go_at_call 36; (with_reducible refine (nlen_c hN).mono ?_); rintro e w' ⟨rfl, rfl⟩)
      | (go_at_call 61; (with_reducible refine (nall_c hN).mono ?_); rintro e w' ⟨rfl, rfl⟩)
      | (go_at_call 42; (with_reducible refine (ntwin_c hN).mono ?_); rintro e w' ⟨rfl, rfl⟩)
      | (go_at_call 62; (with_reducible refine (nbytes_c hN).mono ?_); rintro e w' ⟨rfl, rfl⟩))
      go_roundw
      case rel => exact ⟨2, by go_num, by omega, hC, hL, hK⟩
      case measure => simp [intOf]
    · go_wp2_with fail
      refine (awake21_c wr).mono ?_
      rintro e w2 ⟨rfl, k2⟩
      go_wp2_with fail
      go_ret
      exact ⟨rfl, (hK.trans k2 (fun _ _ x => x)).below (Nat.le_refl _) (fun _ x => x.elim)⟩

end Go.Proofs.Ytofdcmbjcpfabaa
