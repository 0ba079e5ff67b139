/- QueueNobody: the walk. -/
import Derived.Test.YtofdcmbjcpfabaaQN
namespace Go.Proofs.Ytofdcmbjcpfabaa
open Go.RowKit Go.Maps Go.MapKept Go.ChangeMaps
attribute [local go_sem ↓] Go.wp_at_zero Go.wp_at_succ

/-- The two pointers, and what they lead to. -/
structure TwoQ (w wr : World) (B : Nat) : Prop where
  z : wr.cell? ⟨B, 2, none⟩ = some (.int .i64 0)
  l0 : wr.cell? ⟨B + 1, 0, none⟩ = some (.pointer none)
  l1 : wr.cell? ⟨B + 1, 1, none⟩ = some (.pointer (some ⟨B, 0, none⟩))
  lt : B + 1 < wr.heap.size
  k : Keeps NoBlk w wr

theorem TwoQ.keep {w wr w' : World} {B : Nat} (h : TwoQ w wr B) (hk : Keeps NoBlk wr w') : TwoQ w w' B :=
  ⟨(hk.cell (p := ⟨B, 2, none⟩) (by have := h.lt; show B < _; omega) id).trans h.z, (hk.cell (p := ⟨B + 1, 0, none⟩) h.lt id).trans h.l0, (hk.cell (p := ⟨B + 1, 1, none⟩) h.lt id).trans h.l1, Nat.lt_of_lt_of_le h.lt hk.size, h.k.trans hk (fun _ _ x => x)⟩

set_option maxRecDepth 100000 in
set_option maxHeartbeats 8000000 in
theorem nobody22_c (w : World) (key who : ByteArray) (now lease tok : Int) : Calls Try.prog 13 #[.string key, .string who, .int .i64 now, .int .i64 lease, .int .i64 tok] w fun e w' => e = .returned (.bool true) ∧ Below w.heap.size w w' := by
  go_enter Try.func13, Try.ntmps13
  go_wp2_with fail
  obtain ⟨B, hB⟩ : ∃ B, w.heap.size = B := ⟨_, rfl⟩
  refine name_world ?_
  intro w1 hw1
  have hS : TwoQ w w1 B := by
    have h1 : w1.heap[B]? = some (.cells #[.int .i64 0, .int .i64 0, .int .i64 0, .slice none 0 0, .map none, .map none] 118 (0, 0)) := by
      subst hw1 hB
      rw [Below.heap_alloc _ _ _ (by simp)]
      exact heap_alloc_new _ _
    have h2 : w1.heap[B + 1]? = some (.cells #[.pointer none, .pointer (some ⟨B, 0, none⟩)] 119 (0, 0)) := by
      subst hw1 hB
      have := heap_alloc_new (w.alloc (.cells #[.int .i64 0, .int .i64 0, .int .i64 0, .slice none 0 0, .map none, .map none] 118)) (.cells #[.pointer none, .pointer (some ⟨w.heap.size, 0, none⟩)] 119)
      simpa using this
    exact ⟨by rw [cell_of_row _ _ _ _ _ _ h1]; rfl, by rw [cell_of_row _ _ _ _ _ _ h2]; rfl, by rw [cell_of_row _ _ _ _ _ _ h2]; rfl, block_lt h2, by subst hw1; exact ((Keeps.refl _ _).alloc _).alloc _⟩
  rw [hB]
  clear hw1
  go_loopw [14] (fun iv wr => ∃ k : Nat, iv = .int .i64 k ∧ k ≤ 2 ∧ TwoQ w wr B) (fun iv _ => 2 - (intOf iv).toNat)
  case atStart => exact ⟨0, rfl, by omega, hS⟩
  case round =>
    clear hS
    obtain ⟨k, rfl, hk2, hT⟩ := hrel
    obtain ⟨hz, hL0, hL1, hlt, hK⟩ := id hT
    have hS : ∀ {w'}, Keeps NoBlk wr w' → TwoQ w w' B := fun h => hT.keep h
    rcases (by omega : k = 0 ∨ k = 1 ∨ k = 2) with rfl | rfl | rfl
    · have hN : NobodyQ wr none := .inl rfl
      have hk : Keeps NoBlk wr wr := Keeps.refl _ _
      go_wp2_with (first
      | (go_at_call 22; (with_reducible refine (nqpoll_c (hN.keep hk) _ _ _).mono ?_); rintro e w9 ⟨rfl, k9⟩; replace hk := hk.trans k9 (fun _ _ x => x))
      | (go_at_call 24; (with_reducible refine (nqdone_c (hN.keep hk) _).mono ?_); rintro e w9 ⟨rfl, k9⟩; replace hk := hk.trans k9 (fun _ _ x => x))
      | (go_at_call 23; (with_reducible refine (nqback_c (hN.keep hk) _ _).mono ?_); rintro e w9 ⟨rfl, k9⟩; replace hk := hk.trans k9 (fun _ _ x => x))
      | (go_at_call 63; (with_reducible refine (nqnext_c (hN.keep hk) ).mono ?_); rintro e w9 ⟨rfl, k9⟩; replace hk := hk.trans k9 (fun _ _ x => x))
      | (go_at_call 20; (with_reducible refine (nqput_c (hN.keep hk) _ _ _).mono ?_); rintro e w9 ⟨rfl, k9⟩; replace hk := hk.trans k9 (fun _ _ x => x))
      | (go_at_call 37; (with_reducible refine (nqbeat_c (hN.keep hk) _ _ _).mono ?_); rintro e w9 ⟨rfl, k9⟩; replace hk := hk.trans k9 (fun _ _ x => x))
      | (go_at_call 64; (with_reducible refine (nqdrop_c (hN.keep hk) _).mono ?_); rintro e w9 ⟨rfl, k9⟩; replace hk := hk.trans k9 (fun _ _ x => x))
      | (go_at_call 21; (with_reducible refine (nqlen_c (hN.keep hk) ).mono ?_); rintro e w9 ⟨rfl, k9⟩; replace hk := hk.trans k9 (fun _ _ x => x))
      | (go_at_call 25; (with_reducible refine (nqtwin_c (hN.keep hk) ).mono ?_); rintro e w9 ⟨rfl, k9⟩; replace hk := hk.trans k9 (fun _ _ x => x))
      | (go_at_call 38; (with_reducible refine (nqexpire_c (hN.keep hk) _).mono ?_); rintro e w9 ⟨rfl, k9⟩; replace hk := hk.trans k9 (fun _ _ x => x))
      | (go_at_call 39; (with_reducible refine (nqouts_c (hN.keep hk) ).mono ?_); rintro e w9 ⟨rfl, k9⟩; replace hk := hk.trans k9 (fun _ _ x => x))
      | (go_at_call 65; (with_reducible refine (nqwaits_c (hN.keep hk) ).mono ?_); rintro e w9 ⟨rfl, k9⟩; replace hk := hk.trans k9 (fun _ _ x => x))
      | (go_at_call 66; (with_reducible refine (nqbytes_c (hN.keep hk) ).mono ?_); rintro e w9 ⟨rfl, k9⟩; replace hk := hk.trans k9 (fun _ _ x => x)))
      go_roundw
      case rel => exact ⟨1, by go_num, by omega, hS hk⟩
      case measure => simp [intOf]
    · have hN : NobodyQ wr (some ⟨B, 0, none⟩) := .inr ⟨B, rfl, hz, by omega⟩
      have hk : Keeps NoBlk wr wr := Keeps.refl _ _
      go_wp2_with (first
      | (go_at_call 22; (with_reducible refine (nqpoll_c (hN.keep hk) _ _ _).mono ?_); rintro e w9 ⟨rfl, k9⟩; replace hk := hk.trans k9 (fun _ _ x => x))
      | (go_at_call 24; (with_reducible refine (nqdone_c (hN.keep hk) _).mono ?_); rintro e w9 ⟨rfl, k9⟩; replace hk := hk.trans k9 (fun _ _ x => x))
      | (go_at_call 23; (with_reducible refine (nqback_c (hN.keep hk) _ _).mono ?_); rintro e w9 ⟨rfl, k9⟩; replace hk := hk.trans k9 (fun _ _ x => x))
      | (go_at_call 63; (with_reducible refine (nqnext_c (hN.keep hk) ).mono ?_); rintro e w9 ⟨rfl, k9⟩; replace hk := hk.trans k9 (fun _ _ x => x))
      | (go_at_call 20; (with_reducible refine (nqput_c (hN.keep hk) _ _ _).mono ?_); rintro e w9 ⟨rfl, k9⟩; replace hk := hk.trans k9 (fun _ _ x => x))
      | (go_at_call 37; (with_reducible refine (nqbeat_c (hN.keep hk) _ _ _).mono ?_); rintro e w9 ⟨rfl, k9⟩; replace hk := hk.trans k9 (fun _ _ x => x))
      | (go_at_call 64; (with_reducible refine (nqdrop_c (hN.keep hk) _).mono ?_); rintro e w9 ⟨rfl, k9⟩; replace hk := hk.trans k9 (fun _ _ x => x))
      | (go_at_call 21; (with_reducible refine (nqlen_c (hN.keep hk) ).mono ?_); rintro e w9 ⟨rfl, k9⟩; replace hk := hk.trans k9 (fun _ _ x => x))
      | (go_at_call 25; (with_reducible refine (nqtwin_c (hN.keep hk) ).mono ?_); rintro e w9 ⟨rfl, k9⟩; replace hk := hk.trans k9 (fun _ _ x => x))
      | (go_at_call 38; (with_reducible refine (nqexpire_c (hN.keep hk) _).mono ?_); rintro e w9 ⟨rfl, k9⟩; replace hk := hk.trans k9 (fun _ _ x => x))
      | (go_at_call 39; (with_reducible refine (nqouts_c (hN.keep hk) ).mono ?_); rintro e w9 ⟨rfl, k9⟩; replace hk := hk.trans k9 (fun _ _ x => x))
      | (go_at_call 65; (with_reducible refine (nqwaits_c (hN.keep hk) ).mono ?_); rintro e w9 ⟨rfl, k9⟩; replace hk := hk.trans k9 (fun _ _ x => x))
      | (go_at_call 66; (with_reducible refine (nqbytes_c (hN.keep hk) ).mono ?_); rintro e w9 ⟨rfl, k9⟩; replace hk := hk.trans k9 (fun _ _ x => x)))
      go_roundw
      case rel => exact ⟨2, by go_num, by omega, hS hk⟩
      case measure => simp [intOf]
    · go_wp2_with fail
      refine (awake22_c wr).mono ?_
      rintro e w2 ⟨rfl, k2⟩
      go_wp2_with fail
      go_ret
      exact ⟨rfl, (hK.trans k2 (fun _ _ x => x)).below (Nat.le_refl _) (fun _ x => x.elim)⟩

end Go.Proofs.Ytofdcmbjcpfabaa
