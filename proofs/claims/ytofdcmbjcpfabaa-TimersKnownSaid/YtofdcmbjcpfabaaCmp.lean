/- package cmp at int64 and int. -/
import Derived.Test.YtofdcmbjcpfabaaProg
import Derived.Test.YtofdcmbjcpfabaaHeapPure
import Derived.WalkSpells
import Derived.WalkLawsBesides
namespace Go.Proofs.Ytofdcmbjcpfabaa
open Go.RowKit

theorem isNaN64_c (x : Int) (w : World) :
    Calls Try.prog 192 #[.int .i64 x] w fun e w' => e = .returned (.bool false) ∧ w = w' := by
  go_enter Try.func192, Try.ntmps192
  go_wp2
  go_ret
  exact ⟨by simp, rfl⟩

theorem isNaN_c (x : Int) (w : World) :
    Calls Try.prog 193 #[.int .i64 x] w fun e w' => e = .returned (.bool false) ∧ w = w' := by
  go_enter Try.func193, Try.ntmps193
  go_wp2
  go_ret
  exact ⟨by simp, rfl⟩

theorem compare64_c (x y : Int) (w : World) :
    Calls Try.prog 170 #[.int .i64 x, .int .i64 y] w fun e w' => e = .returned (.int .i64 (cmpI x y)) ∧ w = w' := by
  unfold cmpI
  go_enter Try.func170, Try.ntmps170
  go_wp2_with (go_at_call 192; refine (isNaN64_c _ _).mono ?_; rintro e w' ⟨rfl, rfl⟩)
  all_goals go_ret
  all_goals simp [*]

theorem compare_c (x y : Int) (w : World) :
    Calls Try.prog 171 #[.int .i64 x, .int .i64 y] w fun e w' => e = .returned (.int .i64 (cmpI x y)) ∧ w = w' := by
  unfold cmpI
  go_enter Try.func171, Try.ntmps171
  go_wp2_with (go_at_call 193; refine (isNaN_c _ _).mono ?_; rintro e w' ⟨rfl, rfl⟩)
  all_goals go_ret
  all_goals simp [*]

set_option maxHeartbeats 400000 in
theorem or_c (b : Nat) (x y : Int) (w : World) (h0 : w.cell? ⟨b, 0, none⟩ = some (.int .i64 x)) (h1 : w.cell? ⟨b, 1, none⟩ = some (.int .i64 y)) :
    Calls Try.prog 169 #[.slice (some ⟨b, 0, none⟩) 2 2] w fun e w' => e = .returned (.int .i64 (orI x y)) ∧ w = w' := by
  unfold orI
  by_cases hx : x = 0
  · subst hx
    by_cases hy : y = 0
    · subst hy
      go_enter Try.func169, Try.ntmps169
      go_wp2
      refine wp_loop_rounds 3 ?_
      rw [rounds_succ]
      go_wp2
      rw [rounds_succ]
      go_wp2
      rw [rounds_succ]
      go_wp2
      go_ret
      exact ⟨by simp, rfl⟩
    · have hy1 : (y != 0) = true := by simpa using hy
      go_enter Try.func169, Try.ntmps169
      go_wp2
      refine wp_loop_rounds 3 ?_
      rw [rounds_succ]
      go_wp2
      rw [rounds_succ]
      go_wp2
      go_ret
      exact ⟨by simp, rfl⟩
  · have hx1 : (x != 0) = true := by simpa using hx
    go_enter Try.func169, Try.ntmps169
    go_wp2
    refine wp_loop_rounds 3 ?_
    rw [rounds_succ]
    go_wp2
    go_ret
    exact ⟨by simp, rfl⟩

theorem keyI : Go.Maps.Keyed Try.prog 3 := Go.Maps.int_keyed Try.underlying3
theorem intInj (k k' : Int) (h : Value.int .i64 k = Value.int .i64 k') : k = k' := by cases h; rfl

theorem w64 {a : Int} (h : -4611686018427387904 ≤ a ∧ a ≤ 4611686018427387904) : IntKind.i64.wrap a = a := IntWalk.i64_in _ (by omega)

theorem zeroInt (w : World) : (zeroValue 3).run Try.prog w = .ok (.int .i64 0) w := by kernel_rfl

end Go.Proofs.Ytofdcmbjcpfabaa
