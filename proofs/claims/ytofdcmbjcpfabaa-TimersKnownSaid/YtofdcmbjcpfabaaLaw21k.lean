/- TimersKnown: the walk. -/
import Derived.Test.YtofdcmbjcpfabaaTmJ
import Derived.Test.YtofdcmbjcpfabaaLaw21a
namespace Go.Proofs.Ytofdcmbjcpfabaa
open Go.RowKit Go.Maps Go.MapKept Go.ChangeMaps
attribute [local go_sem ↓] Go.wp_at_zero Go.wp_at_succ

def aB : ByteArray := ⟨#[97]⟩
/-- The j-th timer; the first i of them. -/
def kn (j : Nat) : Thing Tm := ⟨-(j : Int), j, ⟨-(j : Int), aB, j⟩⟩
def knL : Nat → List (Thing Tm)
  | 0 => []
  | i + 1 => kn i :: knL i
theorem knL_len : ∀ i, (knL i).length = i
  | 0 => rfl
  | i + 1 => by show (knL i).length + 1 = _; rw [knL_len i]
theorem knL_mem : ∀ {i : Nat} {x : Thing Tm}, x ∈ knL i ↔ ∃ j, j < i ∧ x = kn j
  | 0, x => ⟨(fun h => by cases h), fun ⟨j, h, _⟩ => absurd h (Nat.not_lt_zero _)⟩
  | i + 1, x => by
    show x ∈ kn i :: knL i ↔ _
    rw [List.mem_cons, knL_mem]
    constructor
    · rintro (rfl | ⟨j, h, rfl⟩)
      · exact ⟨i, by omega, rfl⟩
      · exact ⟨j, by omega, rfl⟩
    · rintro ⟨j, h, rfl⟩
      rcases Nat.lt_or_ge j i with h2 | h2
      · exact .inr ⟨j, h2, rfl⟩
      · left; rw [show j = i by omega]

theorem bts_new {w : World} {B : Nat} {bs : List UInt8} (h : w.heap[B]? = some (.cells (bs.map (fun b => Value.int .u8 b.toNat)).toArray 5 (0, 0))) : Bts w (.slice (some ⟨B, 0, none⟩) bs.length bs.length) bs := by
  refine ⟨some ⟨B, 0, none⟩, bs.length, rfl, Nat.le_refl _, fun _ => ⟨B, 0, rfl, block_lt h, fun j hj => ?_⟩⟩
  rw [Nat.zero_add, cell_of_row _ _ _ _ _ _ h]
  simp [hj]

theorem open1 : rdOpen [2, 14, 1, 98, 4, 12, 0, 0] = (none, 5, 3) := by kernel_rfl
theorem open2 : rdOpen [2, 14, 0, 0, 14, 0, 0] = (none, 4, 6) := by kernel_rfl
theorem open3 : rdOpen [129, 32] = (none, 0, 2) := by kernel_rfl


set_option maxRecDepth 100000 in
set_option maxHeartbeats 8000000 in
theorem known21_c (w : World) : Calls Try.prog 15 #[] w fun e w' => e = .returned (.bool true) ∧ Below w.heap.size w w' := by
  have hnew := newTable_o w
  go_enter Try.func15, Try.ntmps15
  go_wp2_with fail
  refine hnew.mono ?_
  rintro e w1 ⟨p, S0, rfl, hT0, m0⟩
  have hS0 : ∀ k, S0 k → w.heap.size ≤ k := fun k hk => (m0.foot k hk).resolve_left id
  have k0 : Keeps NoBlk w w1 := m0.keeps
  clear hnew m0
  go_wp2_with fail
  go_loopw [2] (fun iv wr => ∃ (i : Nat) (S : Nat → Prop), iv = .int .i64 i ∧ i ≤ 4096 ∧ IsTable wr p S (knL i) i ∧ (∀ k, S k → w.heap.size ≤ k) ∧ Keeps NoBlk w wr) (fun iv _ => 4096 - (intOf iv).toNat)
  case atStart => exact ⟨0, S0, rfl, by omega, hT0, hS0, k0⟩
  case round =>
    clear hT0 hS0 k0
    obtain ⟨i, S, rfl, hi, hT, hS, hK⟩ := hrel
    have iz : (0 : Int) ≤ i := by omega
    by_cases hlt : (i : Int) < 4096
    · have hset := set_o wr p S (knL i) i hT (-(i : Int)) aB i (by decide) (WalkArith.wf_i64 (by omega)) (by rw [knL_len]; omega) (by omega)
      unfold aB at hset
      go_wp2_with fail
      refine hset.mono ?_
      intro e w4 hp4
      obtain ⟨hb, _⟩ | ⟨_, ⟨y, hy, hyo, hyi⟩, _⟩ | ⟨_, _, hb, _⟩ | ⟨_, hno, _, rfl, S4, hT4, m4⟩ := hp4
      · omega
      · obtain ⟨j, hj, rfl⟩ := knL_mem.1 hy
        have : (j : Int) = i := hyi
        omega
      · rw [knL_len] at hb; omega
      · have hT4' : IsTable w4 p S4 (knL (i + 1)) ((i + 1 : Nat) : Int) := by
          have e1 : (((i + 1 : Nat) : Int)) = (i : Int) + 1 := by omega
          rw [e1]; exact hT4
        have hS4 : ∀ b, S4 b → w.heap.size ≤ b := fun b hb => by
          rcases m4.foot b hb with e | e
          · exact hS b e
          · exact Nat.le_trans hK.size e
        have hK4 : Keeps NoBlk w w4 := hK.trans m4.keeps (fun b hb hs => by have := hS b hs; omega)
        clear hset hT hT4 m4 hK hS
        go_wp2_with fail
        go_roundw
        case rel => exact ⟨i + 1, S4, by go_num, by omega, hT4', hS4, hK4⟩
        case measure => simp [intOf]; omega
    · have hi2 : i = 4096 := by omega
      subst hi2
      have hl := knL_len 4096
      have hmem := @knL_mem 4096
      obtain ⟨L, hL⟩ : ∃ L, knL 4096 = L := ⟨_, rfl⟩
      rw [hL] at hT hl hmem
      clear hL
      have hown : ∀ x ∈ L, x.v.owner = aB := fun x hx => by obtain ⟨j, _, rfl⟩ := hmem.1 hx; rfl
      have hset1 := set_o wr p S L 4096 hT 0 ⟨#[98]⟩ 0 (by decide) (by decide) (by omega) (by omega)
      go_wp2_with fail
      refine hset1.mono ?_
      intro e w4 hp4
      have hp4' : e = .returned (.int .i64 7) ∧ IsTable w4 p S L 4096 ∧ Moves S wr S w4 := by
        obtain ⟨hb, _⟩ | ⟨_, ⟨y, hy, hyo, hyi⟩, _⟩ | ⟨_, _, hb, h1, hT4, m4⟩ | ⟨_, hno, hb, _⟩ := hp4
        · omega
        · rw [hown y hy] at hyo; exact absurd hyo (by decide)
        · exact ⟨h1, hT4, m4⟩
        · exact absurd hl hb
      clear hp4
      obtain ⟨rfl, hT4, m4⟩ := hp4'
      have hK4 : Keeps NoBlk w w4 := hK.trans m4.keeps (fun b hb hs => by have := hS b hs; omega)
      have hset2 := set_o w4 p S L 4096 hT4 0 ⟨#[97]⟩ 5 (by decide) (by decide) (by omega) (by omega)
      clear hset1 hT hK m4
      go_wp2_with fail
      refine hset2.mono ?_
      intro e w5 hp5
      have h5 : kn 5 ∈ L := hmem.2 ⟨5, by omega, rfl⟩
      have hp5' : e = .returned (.int .i64 6) ∧ IsTable w5 p S L 4096 ∧ Moves S w4 S w5 := by
        obtain ⟨hb, _⟩ | ⟨_, _, h1, hT5, m5⟩ | ⟨_, hno, _⟩ | ⟨_, hno, _⟩ := hp5
        · omega
        · exact ⟨h1, hT5, m5⟩
        · exact absurd ⟨rfl, rfl⟩ (hno _ h5)
        · exact absurd ⟨rfl, rfl⟩ (hno _ h5)
      clear hp5
      obtain ⟨rfl, hT5, m5⟩ := hp5'
      have hK5 : Keeps NoBlk w w5 := hK4.trans m5.keeps (fun b hb hs => by have := hS b hs; omega)
      have hnx := next_o w5 p S L 4096 hT5
      clear hset2 hT4 hK4 m5
      go_wp2_with fail
      refine hnx.mono ?_
      rintro e wy ⟨⟨d, bb, hnof, rfl⟩, ky⟩
      have hd : d = -4095 := by
        rcases hnof with ⟨hn, _⟩ | ⟨x, hf, rfl, _⟩
        · rw [hn] at hl; cases hl
        · obtain ⟨j, hj, rfl⟩ := hmem.1 hf.1
          have := hf.2 (kn 4095) (hmem.2 ⟨4095, by omega, rfl⟩)
          unfold Thing.le at this
          have h1 : (kn j).key = -(j : Int) := rfl
          have h2 : (kn 4095).key = -4095 := rfl
          rw [h1, h2] at this
          rw [h1]
          omega
      subst hd
      have hTy := hT5.keep ky (fun _ _ x => x)
      have hKy : Keeps NoBlk w wy := hK5.trans ky (fun _ _ x => x)
      clear hnx hT5 hK5 hnof ky
      go_wp2_with fail
      refine name_calls0 ?_
      intro wz hwz
      have kz : Keeps NoBlk wy wz := by subst hwz; exact (Keeps.refl _ _).alloc _
      have hbz : wz.heap[wy.heap.size]? = some (.cells (([2, 14, 1, 98, 4, 12, 0, 0] : List UInt8).map (fun b => Value.int .u8 b.toNat)).toArray 5 (0, 0)) := by subst hwz; exact heap_alloc_new _ _
      have hop := openTable_c (bts_new hbz) (by decide)
      rw [open1] at hop
      refine Calls.mono hop ?_
      intro e wn hpn
      obtain ⟨kn2, hq2⟩ := hpn
      replace hq2 := hq2.resolve_right (fun ⟨_, _, _, _, _, h, _⟩ => by cases h)
      obtain ⟨_, rfl⟩ := hq2
      have hT1 := (hTy.keep kz (fun _ _ x => x)).keep kn2 (fun _ _ x => x)
      have hK1 : Keeps NoBlk w wn := (hKy.trans kz (fun _ _ x => x)).trans kn2 (fun _ _ x => x)
      clear hTy hKy kz hbz hwz hop kn2
      go_wp2_with fail
      refine name_calls0 ?_
      intro wz2 hwz
      have kz : Keeps NoBlk wn wz2 := by subst hwz; exact (Keeps.refl _ _).alloc _
      have hbz : wz2.heap[wn.heap.size]? = some (.cells (([2, 14, 0, 0, 14, 0, 0] : List UInt8).map (fun b => Value.int .u8 b.toNat)).toArray 5 (0, 0)) := by subst hwz; exact heap_alloc_new _ _
      have hop := openTable_c (bts_new hbz) (by decide)
      rw [open2] at hop
      refine Calls.mono hop ?_
      intro e wn2 hpn
      obtain ⟨kn2, hq2⟩ := hpn
      replace hq2 := hq2.resolve_right (fun ⟨_, _, _, _, _, h, _⟩ => by cases h)
      obtain ⟨_, rfl⟩ := hq2
      have hT2 := (hT1.keep kz (fun _ _ x => x)).keep kn2 (fun _ _ x => x)
      have hK2 : Keeps NoBlk w wn2 := (hK1.trans kz (fun _ _ x => x)).trans kn2 (fun _ _ x => x)
      clear hT1 hK1 kz hbz hwz hop kn2
      go_wp2_with fail
      refine name_calls0 ?_
      intro wz3 hwz
      have kz : Keeps NoBlk wn2 wz3 := by subst hwz; exact (Keeps.refl _ _).alloc _
      have hbz : wz3.heap[wn2.heap.size]? = some (.cells (([129, 32] : List UInt8).map (fun b => Value.int .u8 b.toNat)).toArray 5 (0, 0)) := by subst hwz; exact heap_alloc_new _ _
      have hop := openTable_c (bts_new hbz) (by decide)
      rw [open3] at hop
      refine Calls.mono hop ?_
      intro e wn3 hpn
      obtain ⟨kn2, hq2⟩ := hpn
      replace hq2 := hq2.resolve_right (fun ⟨_, _, _, _, _, h, _⟩ => by cases h)
      obtain ⟨_, rfl⟩ := hq2
      have hT3 := (hT2.keep kz (fun _ _ x => x)).keep kn2 (fun _ _ x => x)
      have hK3 : Keeps NoBlk w wn3 := (hK2.trans kz (fun _ _ x => x)).trans kn2 (fun _ _ x => x)
      clear hT2 hK2 kz hbz hwz hop kn2
      go_wp2_with fail
      refine (awake21_c _).mono ?_
      rintro e w7 ⟨rfl, k7⟩
      have hT7 := hT3.keep k7 (fun _ _ x => x)
      have hda := dropAll_o w7 p S L 4096 hT7 ⟨#[97]⟩ (by omega)
      have hK7 : Keeps NoBlk w w7 := hK3.trans k7 (fun _ _ x => x)
      have hcnt : (L.filter (fun x => decide (x.v.owner = (⟨#[97]⟩ : ByteArray)))).length = 4096 := by
        have hf : L.filter (fun x => decide (x.v.owner = (⟨#[97]⟩ : ByteArray))) = L := List.filter_eq_self.2 (fun x hx => decide_eq_true (hown x hx))
        rw [hf]; exact hl
      unfold DropAllT at hda
      rw [hcnt] at hda
      clear hT3 hK3 k7 hT7
      go_wp2_with fail
      refine hda.mono ?_
      rintro e w8 ⟨rfl, hT8, m8⟩
      go_wp2_with fail
      go_ret
      exact ⟨rfl, (hK7.trans m8.keeps (fun b hb hs => by have := hS b hs; omega)).below (Nat.le_refl _) (fun _ x => x.elim)⟩

end Go.Proofs.Ytofdcmbjcpfabaa
