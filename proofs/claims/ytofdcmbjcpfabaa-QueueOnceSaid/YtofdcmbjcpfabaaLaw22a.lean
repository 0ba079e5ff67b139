/- Layer 22's statements: awake; QueueOrder. -/
import Derived.Test.YtofdcmbjcpfabaaQObj
namespace Go.Proofs.Ytofdcmbjcpfabaa
open Go.RowKit Go.Maps Go.MapKept Go.ChangeMaps
attribute [local go_sem ↓] Go.wp_at_zero Go.wp_at_succ

theorem idxI_cons_hit {P : Task → Bool} {t : Task} {ts : List Task} (h : P t = true) : idxI P (t :: ts) = 0 := by
  have := idxI_hit (P := P) (ts := t :: ts) (k := 0) (by simp) (by simpa using h) (fun j hj => absurd hj (Nat.not_lt_zero _))
  simpa using this

theorem forB_free {g : Int} {t : Task} {who : ByteArray} {now : Int} (hr : t.ready ≤ now) (hs : t.sticky = ⟨#[]⟩) : forB g t who now = true := by
  unfold forB
  rw [hs]
  simp [hr]

set_option maxRecDepth 100000 in
set_option maxHeartbeats 4000000 in
theorem awake22_c (w : World) : Calls Try.prog 18 #[] w fun e w' => e = .returned (.bool true) ∧ Keeps NoBlk w w' := by
  go_enter Try.func18, Try.ntmps18
  go_wp2_with fail
  refine (qnew_o w 2 3 (by unfold BadNew; omega) (by omega)).mono ?_
  rintro e w1 ⟨p, S1, rfl, h1, m1⟩
  go_wp2_with fail
  refine (qputOk_o h1 ⟨#[97]⟩ ⟨#[]⟩ 0 (by decide) ⟨by omega, by omega⟩ rfl (by show ¬ (2 : Int) ≤ ((0 : Nat) : Int); omega) (by show (0 : Nat) < _; omega)).mono ?_
  rintro e w2 ⟨rfl, S2, h2, m2⟩
  go_wp2_with fail
  have hpoll : Calls Try.prog 22 #[.pointer (some ⟨p, 0, none⟩), .string ⟨#[119]⟩, .int .i64 0, .int .i64 5] w2 fun e w' => e = .returned (.tuple #[.string ⟨#[97]⟩, .int .i64 1, .int .i64 1, .int .i64 0]) ∧ ∃ S', IsQ w' p S' (((QS.new 2 3).wait ⟨⟨#[97]⟩, ⟨#[]⟩, 0, 0⟩).hand 0 ⟨⟨#[97]⟩, ⟨#[]⟩, 0, 0⟩ ⟨#[119]⟩ 5) ∧ Moves S2 w2 S' w' :=
    qpollHit_o h2 ⟨#[119]⟩ 0 5 (by omega) (by omega) ⟨by omega, by omega⟩ 0 ⟨⟨#[97]⟩, ⟨#[]⟩, 0, 0⟩ rfl (idxI_cons_hit (forB_free (Int.le_refl _) rfl)) (by show (1 : Int) < _; omega) (by show (0 : Int) < _; omega)
  refine hpoll.mono ?_
  rintro e w3 ⟨rfl, S3, h3, m3⟩
  go_wp2_with fail
  have hdone : Calls Try.prog 24 #[.pointer (some ⟨p, 0, none⟩), .int .i64 1] w3 fun e w' => e = .returned (.tuple #[.string ⟨#[97]⟩, .int .i64 1, .int .i64 0]) ∧ ∃ q', q'.waits = [] ∧ IsQ w' p S3 q' ∧ Moves S3 w3 S3 w' :=
    (qdoneYes_o h3 1 ⟨by omega, by omega⟩ ⟨⟨⟨#[97]⟩, ⟨#[]⟩, 0, 1⟩, 1, ⟨#[119]⟩, 5⟩ rfl).mono fun e w' ⟨h1, h2, h3⟩ => ⟨h1, _, rfl, h2, h3⟩
  refine hdone.mono ?_
  rintro e w4 ⟨rfl, q4, hq4, h4, m4⟩
  have hlen := qlen_o h4
  rw [hq4] at hlen
  go_wp2_with (go_at_call 21; refine hlen.mono ?_; rintro e w5 ⟨rfl, rfl⟩)
  go_ret
  exact ⟨by simp, (((m1.trans m2).trans m3).trans m4).keeps⟩

end Go.Proofs.Ytofdcmbjcpfabaa
