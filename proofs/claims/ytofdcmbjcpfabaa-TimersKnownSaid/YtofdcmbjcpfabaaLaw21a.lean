/- Layer 21's statements: the parts that they share. -/
import Derived.Test.YtofdcmbjcpfabaaTmD
namespace Go.Proofs.Ytofdcmbjcpfabaa
open Go.RowKit Go.Maps Go.MapKept Go.ChangeMaps
attribute [local go_sem ↓] Go.wp_at_zero Go.wp_at_succ

theorem DueTo.one {x : Thing Tm} {R L' : List (Thing Tm)} {now : Int} (h : DueTo now [x] R L') (hl : ∀ y ∈ L', now < y.key) (hx : x.key ≤ now) : R = [x] ∧ L' = [] := by
  have hL : L' = [] := by
    rcases L' with _ | ⟨y, l⟩
    · rfl
    · have h1 : y ∈ [x] := h.perm.mem_iff.2 (List.mem_append_right _ List.mem_cons_self)
      rw [List.mem_singleton] at h1
      have := hl y List.mem_cons_self
      rw [h1] at this; omega
  subst hL
  have hp := h.perm
  rw [List.append_nil] at hp
  exact ⟨List.perm_singleton.1 hp.symm, rfl⟩

set_option maxRecDepth 100000 in
set_option maxHeartbeats 2000000 in
theorem awake21_c (w : World) : Calls Try.prog 32 #[] w fun e w' => e = .returned (.bool true) ∧ Keeps NoBlk w w' := by
  go_enter Try.func32, Try.ntmps32
  go_wp2_with fail
  refine (newTable_o w).mono ?_
  rintro e w1 ⟨p, S1, rfl, h1, m1⟩
  have hset : Calls Try.prog 60 #[.pointer (some ⟨p, 0, none⟩), .int .i64 3, .string ⟨#[97]⟩, .int .i64 1] w1 fun e w' => e = .returned (.int .i64 0) ∧ ∃ S', IsTable w' p S' [⟨3, 0, ⟨3, ⟨#[97]⟩, 1⟩⟩] (0 + 1) ∧ Moves S1 w1 S' w' := by
    refine (set_o w1 p S1 [] 0 h1 3 ⟨#[97]⟩ 1 (by decide) (by decide) (by simp) (by omega)).mono ?_
    rintro e w' (⟨h, _⟩ | ⟨_, ⟨x, hx, _⟩, _⟩ | ⟨_, _, h, _⟩ | ⟨_, _, _, he, S', hh, hm⟩)
    · omega
    · cases hx
    · simp at h
    · exact ⟨he, S', hh, hm⟩
  go_wp2_with fail
  refine hset.mono ?_
  rintro e w2 ⟨rfl, S2, h2, m2⟩
  have hdue : Calls Try.prog 34 #[.pointer (some ⟨p, 0, none⟩), .int .i64 3] w2 fun e w' => ∃ g cap, e = .returned (.slice (some ⟨g, 0, none⟩) 1 cap) ∧ w'.cell? ⟨g, 0, none⟩ = some (.int .i64 3) ∧ w'.cell? ⟨g, 1, none⟩ = some (.string ⟨#[97]⟩) ∧ w'.cell? ⟨g, 2, none⟩ = some (.int .i64 1) ∧ IsTable w' p S2 [] (0 + 1) ∧ Moves S2 w2 S2 w' := by
    refine (due_o w2 p S2 _ _ h2 3 (by simp)).mono ?_
    rintro e w' ⟨R, L', lv, rfl, hrow, _, hd, hl, hT, hm⟩
    obtain ⟨rfl, rfl⟩ := hd.one hl (by show (3 : Int) ≤ 3; omega)
    rcases hrow.form with ⟨_, h⟩ | ⟨g, cap, rfl⟩
    · simp at h
    · have hr : RowAt w' 53 3 encTm g cap [(⟨3, ⟨#[97]⟩, 1⟩ : Tm)] := hrow
      exact ⟨g, cap, rfl, hr.cell encTm_len (i := 0) (by simp) (j := 0) (by omega), hr.cell encTm_len (i := 0) (by simp) (j := 1) (by omega), hr.cell encTm_len (i := 0) (by simp) (j := 2) (by omega), hT, hm⟩
  go_wp2_with fail
  refine hdue.mono ?_
  rintro e w3 ⟨g, cap, rfl, c0, c1, c2, h3, m3⟩
  have hlen := lenTable_o w3 p S2 _ _ h3
  go_wp2_with (go_at_call 36; refine hlen.mono ?_; rintro e w4 ⟨rfl, rfl⟩)
  go_ret
  exact ⟨by simp, ((m1.trans m2).trans m3).keeps⟩

/-- The owner of the timer i. -/
def own21 (i : Nat) : ByteArray := if i % 2 = 1 then ⟨#[98]⟩ else ⟨#[97]⟩
/-- The timer i. -/
def th21 (ds : List Int) (i : Nat) : Thing Tm := ⟨ds.getD i 0, i, ⟨ds.getD i 0, own21 i, i⟩⟩

theorem own21_size (i : Nat) : (own21 i).size ≤ maxLen := by unfold own21; split <;> decide

set_option maxRecDepth 100000 in
set_option maxHeartbeats 2000000 in
theorem filled21_c (w : World) (v : Value) (ds : List Int) (hv : Ints w v ds) (hl : ds.length ≤ 200) :
    Calls Try.prog 33 #[v] w fun e w' => ∃ p S, e = .returned (.tuple #[.pointer (some ⟨p, 0, none⟩), .bool true]) ∧ IsTable w' p S ((List.range ds.length).map (th21 ds)) ds.length ∧ Moves NoBlk w S w' := by
  obtain ⟨a, cap, rfl, hc⟩ := hv
  go_enter Try.func33, Try.ntmps33
  go_wp2_with fail
  refine (newTable_o w).mono ?_
  rintro e w1 ⟨p, S1, rfl, h1, m1⟩
  go_wp2_with fail
  go_loopw [5] (fun iv wr => ∃ (k : Nat) (S : Nat → Prop) (L : List (Thing Tm)), iv = .int .i64 k ∧ k ≤ ds.length ∧ IsTable wr p S L k ∧ L.length = k ∧ L.Perm ((List.range k).map (th21 ds)) ∧ Moves NoBlk w S wr) (fun iv _ => ds.length - (intOf iv).toNat)
  case atStart => exact ⟨0, S1, [], rfl, Nat.zero_le _, h1, rfl, List.Perm.refl _, m1⟩
  case round =>
    obtain ⟨k, S, L, rfl, hk, hh, hL, hp, hm⟩ := hrel
    by_cases hlt : k < ds.length
    · obtain ⟨b, off, rfl, hb, hcell⟩ := hc (fun e => by subst e; simp at hlt)
      have c1 := (hm.keeps.cell (p := ⟨b, off + k, none⟩) hb id).trans (hcell k hlt)
      obtain ⟨x, hx⟩ : ∃ x, ds.getD k 0 = x := ⟨_, rfl⟩
      rw [hx] at c1
      have hx' : Hid (ds.getD k 0 = x) := hx
      have k0 : (0 : Int) ≤ k := by omega
      have k1 : (k : Int) < ds.length := by omega
      have hL' : Hid (L.length = k) := hL
      have hset : ∀ o, o = own21 k → Calls Try.prog 60 #[.pointer (some ⟨p, 0, none⟩), .int .i64 x, .string o, .int .i64 k] wr fun e w' => e = .returned (.int .i64 0) ∧ ∃ S', IsTable w' p S' (th21 ds k :: L) (k + 1) ∧ Moves S wr S' w' := by
        rintro o rfl
        refine (set_o wr p S L k hh x (own21 k) k (own21_size k) (WalkArith.wf_i64 (by omega)) (by omega) (by omega)).mono ?_
        rintro e w' (⟨h, _⟩ | ⟨_, ⟨y, hy, _, hid⟩, _⟩ | ⟨_, _, h, _⟩ | ⟨_, _, _, he, S', hh', hm'⟩)
        · omega
        · obtain ⟨j, hj, rfl⟩ := List.mem_map.1 (hp.mem_iff.1 hy)
          rw [List.mem_range] at hj
          simp only [th21] at hid
          omega
        · omega
        · refine ⟨he, S', ?_, hm'⟩
          unfold th21
          rw [hx]
          exact hh'
      clear hL hcell hx
      by_cases hpar : k % 2 = 1
      · have hs := hset ⟨#[98]⟩ (by unfold own21; rw [if_pos hpar])
        have hmod : (k : Int).tmod 2 = 1 := by rw [Int.tmod_eq_emod_of_nonneg (by omega)]; omega
        clear hset hpar
        go_wp2_with fail
        refine hs.mono ?_
        rintro e w2 ⟨rfl, S2, h2, m2⟩
        go_wp2_with fail
        go_roundw
        case rel =>
          refine ⟨k + 1, S2, _, by go_num, by omega, h2, by simp [hL'.out], ?_, hm.trans m2⟩
          rw [List.range_succ, List.map_append]
          exact (hp.cons _).trans (List.perm_append_singleton _ _).symm
        case measure => simp [intOf]; omega
      · have hs := hset ⟨#[97]⟩ (by unfold own21; rw [if_neg hpar])
        have hmod : (k : Int).tmod 2 = 0 := by rw [Int.tmod_eq_emod_of_nonneg (by omega)]; omega
        clear hset hpar
        go_wp2_with fail
        refine hs.mono ?_
        rintro e w2 ⟨rfl, S2, h2, m2⟩
        go_wp2_with fail
        go_roundw
        case rel =>
          refine ⟨k + 1, S2, _, by go_num, by omega, h2, by simp [hL'.out], ?_, hm.trans m2⟩
          rw [List.range_succ, List.map_append]
          exact (hp.cons _).trans (List.perm_append_singleton _ _).symm
        case measure => simp [intOf]; omega
    · have : k = ds.length := by omega
      go_wp2_with fail
      go_ret2
      subst this
      exact ⟨p, S, rfl, hh.perm hp, hm⟩

end Go.Proofs.Ytofdcmbjcpfabaa
