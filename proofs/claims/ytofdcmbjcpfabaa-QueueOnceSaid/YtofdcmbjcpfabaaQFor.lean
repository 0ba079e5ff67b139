/- Queues of tasks: is a task for a worker at a time; the first that is. -/
import Derived.Test.YtofdcmbjcpfabaaQW
namespace Go.Proofs.Ytofdcmbjcpfabaa
open Go.RowKit Go.Maps Go.MapKept Go.ChangeMaps
attribute [local go_sem ↓] Go.wp_at_zero Go.wp_at_succ

/-- queue.isFor -/
def forB (g : Int) (t : Task) (who : ByteArray) (now : Int) : Bool := decide (t.ready ≤ now) && (t.sticky.toList.isEmpty || t.sticky.toList == who.toList || decide (addI t.ready g ≤ now))

/-- A number of 64 bits. -/
def I64 (x : Int) : Prop := -9223372036854775808 ≤ x ∧ x ≤ 9223372036854775807

set_option maxRecDepth 100000 in
set_option maxHeartbeats 2000000 in
theorem isFor_c (w : World) (p : Nat) (g : Int) (t : Task) (who : ByteArray) (now : Int) (hp : p < w.heap.size) (h1 : w.cell? ⟨p, 1, none⟩ = some (.int .i64 g)) (hg : I64 g) (hr : I64 t.ready) :
    Calls Try.prog 82 #[.pointer (some ⟨p, 0, none⟩), taskV t, .string who, .int .i64 now] w fun e w' => e = .returned (.bool (forB g t who now)) ∧ Gr w w' := by
  unfold taskV forB
  obtain ⟨g0, g1⟩ := hg
  obtain ⟨r0, r1⟩ := hr
  go_enter Try.func82, Try.ntmps82
  go_wp2_with fail
  refine name_world ?_
  intro w1 hw1
  have k1 : Gr w w1 := by subst hw1; exact (Gr.refl w).alloc _
  obtain ⟨B, hB⟩ : ∃ B, w.heap.size = B := ⟨_, rfl⟩
  have qb : TaskAt w1 B t := by subst hw1 hB; exact heap_alloc_new _ _
  obtain ⟨b0, b1, b2, b3⟩ := qb.cells
  have c1 : w1.cell? ⟨p, 1, none⟩ = some (.int .i64 g) := (k1.keeps.cell (p := ⟨p, 1, none⟩) hp id).trans h1
  rw [hB]
  clear hw1 hB h1
  by_cases h1 : t.ready ≤ now
  · cases h2 : t.sticky.toList.isEmpty with
    | true =>
      go_quiet (fail)
      go_wp2_with fail
      go_ret
      exact ⟨by simp [*], k1.drewN _⟩
    | false =>
      cases h3 : (t.sticky.toList == who.toList) with
      | true =>
        go_quiet (fail)
        go_wp2_with fail
        go_ret
        exact ⟨by simp [*], k1.drewN _⟩
      | false =>
        go_quiet ((go_at_call 84; exact Calls.quiet_of_same ((add_c t.ready g _ r0 r1 g0 g1).mono fun _ _ h => ⟨h.1, h.2.symm⟩)))
        go_wp2_with fail
        go_ret
        exact ⟨by simp [*], k1.drewN _⟩
  · have h1' : decide (t.ready ≤ now) = false := by simpa using h1
    go_quiet (fail)
    go_wp2_with fail
    go_ret
    exact ⟨by simp [*], k1.drewN _⟩

end Go.Proofs.Ytofdcmbjcpfabaa
