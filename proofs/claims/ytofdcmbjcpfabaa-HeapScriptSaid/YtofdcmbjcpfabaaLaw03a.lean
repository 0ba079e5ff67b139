/- Layer 3's statements: the parts that they share. -/
import Derived.Test.YtofdcmbjcpfabaaHeapOS
import Derived.Test.YtofdcmbjcpfabaaHeapOI
namespace Go.Proofs.Ytofdcmbjcpfabaa
open Go.RowKit Go.Maps Go.MapKept Go.ChangeMaps

set_option maxHeartbeats 1000000 in
theorem awake03_c (w : World) : Calls Try.prog 26 #[] w fun e w' => e = .returned (.bool true) ∧ Keeps NoBlk w w' := by
  go_enter Try.func26, Try.ntmps26
  go_wp2_with fail
  refine (newS_o w).mono ?_
  rintro e w1 ⟨p, S1, rfl, h1, m1⟩
  go_wp2_with fail
  refine (pushS_o w1 p S1 [] 0 h1 2 ⟨#[98]⟩ (by simp) (by omega)).mono ?_
  rintro e w2 ⟨rfl, S2, h2, m2⟩
  go_wp2_with fail
  refine (pushS_o w2 p S2 _ _ h2 1 ⟨#[97]⟩ (by simp) (by omega)).mono ?_
  rintro e w3 ⟨rfl, S3, h3, m3⟩
  go_wp2_with fail
  refine (popS_o w3 p S3 _ _ h3).mono ?_
  rintro e w4 ⟨h4, m4⟩
  have hx : ∃ L', e = .returned (.tuple #[.int .i64 1, .string ⟨#[97]⟩, .int .i64 1, .bool true]) ∧ IsHeapS w4 p S3 L' (0 + 1 + 1) ∧ L'.length = 1 := by
    rcases h4 with ⟨h, _⟩ | ⟨x, L', ⟨hx, hf⟩, hp, he, h4⟩
    · cases h
    · have e1 : x = ⟨1, 0 + 1, ⟨#[97]⟩⟩ := by
        rcases List.mem_cons.1 hx with rfl | hx
        · rfl
        · rcases List.mem_cons.1 hx with rfl | hx
          · have := hf ⟨1, 0 + 1, ⟨#[97]⟩⟩ (by simp)
            unfold Thing.le at this
            simp at this
          · cases hx
      subst e1
      exact ⟨L', he, h4, by have := hp.length_eq; simp at this; omega⟩
  obtain ⟨L', rfl, h4, hl⟩ := hx
  have hl1 := lenI_o
  go_wp2_with fail
  refine (lenS_o w4 p S3 L' _ h4).mono ?_
  rintro e w5 ⟨rfl, rfl⟩
  rw [hl]
  go_wp2_with fail
  go_ret
  exact ⟨by simp, ((m1.trans m2).trans (m3.trans m4)).keeps⟩

/-- The things that 'filled' pushes. -/
def filledL (ks : List Int) : List (Thing Int) := (List.range ks.length).map fun i => ⟨ks.getD i 0, i, i⟩

theorem filledL_snoc (ks : List Int) (k : Nat) : ((List.range (k + 1)).map fun i : Nat => (⟨ks.getD i 0, i, i⟩ : Thing Int)) = ((List.range k).map fun i : Nat => (⟨ks.getD i 0, i, i⟩ : Thing Int)) ++ [⟨ks.getD k 0, k, k⟩] := by
  rw [List.range_succ, List.map_append]; rfl

set_option maxRecDepth 100000 in
set_option maxHeartbeats 1000000 in
theorem filled03_c (w : World) (v : Value) (ks : List Int) (hv : Ints w v ks) (hl : ks.length ≤ 100000) :
    Calls Try.prog 27 #[v] w fun e w' => ∃ p S, e = .returned (.pointer (some ⟨p, 0, none⟩)) ∧ IsHeapI w' p S (filledL ks) ks.length ∧ Moves NoBlk w S w' := by
  obtain ⟨a, cap, rfl, hc⟩ := hv
  go_enter Try.func27, Try.ntmps27
  go_wp2_with fail
  refine (newI_o w).mono ?_
  rintro e w1 ⟨p, S1, rfl, h1, m1⟩
  go_wp2_with fail
  go_loopw [4] (fun iv wr => ∃ (k : Nat) (S : Nat → Prop) (L : List (Thing Int)), iv = .int .i64 k ∧ k ≤ ks.length ∧ IsHeapI wr p S L k ∧ L.length = k ∧ L.Perm ((List.range k).map fun i : Nat => (⟨ks.getD i 0, i, i⟩ : Thing Int)) ∧ Moves NoBlk w S wr) (fun iv _ => ks.length - (intOf iv).toNat)
  case atStart => exact ⟨0, S1, [], rfl, Nat.zero_le _, h1, rfl, List.Perm.refl _, m1⟩
  case round =>
    obtain ⟨k, S, L, rfl, hk, hh, hL, hp, hm⟩ := hrel
    by_cases hlt : k < ks.length
    · obtain ⟨b, off, rfl, hb, hcell⟩ := hc (fun e => by subst e; simp at hlt)
      have c1 := (hm.keeps.cell (p := ⟨b, off + k, none⟩) hb id).trans (hcell k hlt)
      obtain ⟨x, hx⟩ : ∃ x, ks.getD k 0 = x := ⟨_, rfl⟩
      rw [hx] at c1
      have hx' : Hid (ks.getD k 0 = x) := hx
      have k0 : (0 : Int) ≤ k := by omega
      have k1 : (k : Int) < ks.length := by omega
      have hL' : Hid (L.length = k) := hL
      clear hL hcell hx
      go_wp2_with fail
      refine (pushI_o wr p S L k hh x k (by rw [hL'.out]; omega) (by omega)).mono ?_
      rintro e w2 ⟨rfl, S2, h2, m2⟩
      go_wp2_with fail
      go_roundw
      case rel =>
        refine ⟨k + 1, S2, _, by go_num, by omega, h2, by simp [hL'.out], ?_, hm.trans m2⟩
        rw [filledL_snoc, hx'.out]
        exact (hp.cons _).trans (List.perm_append_singleton _ _).symm
      case measure => simp [intOf]; omega
    · have : k = ks.length := by omega
      go_wp2_with fail
      go_ret
      subst this
      exact ⟨p, S, rfl, hh.perm hp, hm⟩

end Go.Proofs.Ytofdcmbjcpfabaa
