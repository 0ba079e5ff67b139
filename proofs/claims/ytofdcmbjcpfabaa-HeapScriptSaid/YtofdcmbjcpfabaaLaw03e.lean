/- HeapScript: told; the plain law. -/
import Derived.Test.YtofdcmbjcpfabaaRef03e
import Derived.Test.YtofdcmbjcpfabaaHeapCp
import Derived.Test.YtofdcmbjcpfabaaHeapKI
import Derived.Test.YtofdcmbjcpfabaaStep03
namespace Go.Proofs.Ytofdcmbjcpfabaa
open Go.RowKit Go.Maps Go.MapKept Go.ChangeMaps
attribute [local go_sem ↓] Go.wp_at_zero Go.wp_at_succ

/-- Things whose numbers are all different stand in one order alone. -/
theorem order_same {R a b : List (Thing Int)} (hr : R.Pairwise (fun x y => x.num < y.num)) (ha : a.Perm R) (hb : b.Perm R) (sa : a.Pairwise Thing.le) (sb : b.Pairwise Thing.le) : a = b := by
  have key : ∀ x ∈ R, ∀ y ∈ R, x.num = y.num → x = y := fun x hx y hy e => by
    obtain ⟨i, hi⟩ := List.mem_iff_getElem?.1 hx
    obtain ⟨j, hj⟩ := List.mem_iff_getElem?.1 hy
    have hil := (List.getElem?_eq_some_iff.1 hi).1
    have hjl := (List.getElem?_eq_some_iff.1 hj).1
    rw [List.getElem?_eq_getElem hil] at hi
    rw [List.getElem?_eq_getElem hjl] at hj
    rcases Nat.lt_trichotomy i j with h | h | h
    · have := List.pairwise_iff_getElem.1 hr i j hil hjl h
      rw [Option.some.inj hi, Option.some.inj hj] at this; omega
    · subst h; exact (Option.some.inj hi).symm.trans (Option.some.inj hj)
    · have := List.pairwise_iff_getElem.1 hr j i hjl hil h
      rw [Option.some.inj hi, Option.some.inj hj] at this; omega
  refine List.Perm.eq_of_pairwise (le := Thing.le) (fun x y hx hy h1 h2 => ?_) sa sb (ha.trans hb.symm)
  exact key x (ha.mem_iff.1 hx) y (hb.mem_iff.1 hy) (by unfold Thing.le at h1 h2; omega)

/-- A row of numbers, its k-th written over. -/
theorem RowAt.int1 {w : World} {e : TypeId} {g cap : Nat} {l : List Int} (h : RowAt w e 1 enc1 g cap l) {i : Nat} (hi : i < l.length) (v : Int) : RowAt (w.setCell ⟨g, i, none⟩ (.int .i64 v)) e 1 enc1 g cap (l.set i v) := by
  have := h.set enc1_len hi v
  rw [Nat.mul_one] at this
  exact this

/-- The worlds of told's loop. -/
structure ToldW (w wr : World) (i : Nat) (out : List (Thing Int)) (vk va vo : Value) (ks vs : List Int) : Prop where
  kp : Keeps NoBlk w wr
  rk : RowV wr 2 1 enc1 vk ks
  ra : RowV wr 3 1 enc1 va vs
  ro : RowV wr 94 3 encI vo out
  lk : ks.length = out.length
  la : vs.length = out.length
  ek : ∀ j, i ≤ j → ks[j]? = (out.map Thing.key)[j]?
  ea : ∀ j, i ≤ j → vs[j]? = (out.map Thing.v)[j]?
  fk : ∀ b, vk.ownBlock = some b → w.heap.size ≤ b
  fa : ∀ b, va.ownBlock = some b → w.heap.size ≤ b
  ka : ∀ b, vk.ownBlock = some b → va.ownBlock ≠ some b
  ko : ∀ b, vk.ownBlock = some b → vo.ownBlock ≠ some b
  ao : ∀ b, va.ownBlock = some b → vo.ownBlock ≠ some b

set_option maxRecDepth 100000 in
set_option maxHeartbeats 4000000 in
theorem told03_c {w : World} {p rp : Nat} {S T : Nat → Prop} {R : List (Thing Int)} {next : Int} (h : IsHeapI w p S R next) (hr : IsRef w rp T R next) (hb : R.length ≤ 1000000) (hrise : R.Pairwise (fun x y => x.num < y.num)) :
    Calls Try.prog 57 #[.pointer (some ⟨p, 0, none⟩), .pointer (some ⟨rp, 0, none⟩)] w fun e w' => e = .returned (.bool true) ∧ Keeps NoBlk w w' := by
  have hall := all_r hr hb hrise
  have hks := fun W (k : Keeps NoBlk w W) => keysI_o W p S R next (h.keep k (fun _ _ x => x)) hb
  have has := fun W (k : Keeps NoBlk w W) => allI_o W p S R next (h.keep k (fun _ _ x => x)) hb
  go_enter Try.func57, Try.ntmps57
  go_wp2_with fail
  refine hall.mono ?_
  rintro e w1 ⟨ao, co, out, rfl, po, so, ro, fo, k1⟩
  go_wp2_with fail
  refine (hks w1 k1).mono ?_
  rintro e w2 ⟨ak, ck, l2, rfl, p2, s2, r2, f2, k2⟩
  have e2 := order_same hrise p2 po s2 so
  subst e2
  have k12 : Keeps NoBlk w w2 := k1.trans k2 (fun _ _ x => x)
  go_wp2_with fail
  refine (has w2 k12).mono ?_
  rintro e w3 ⟨aa, ca, l3, rfl, p3, s3, r3, f3, k3⟩
  have e3 := order_same hrise p3 p2 s3 s2
  subst e3
  obtain ⟨n, hn⟩ : ∃ n, l3.length = n := ⟨_, rfl⟩
  have hlb : n ≤ 1000000 := by rw [← hn, po.length_eq]; exact hb
  have hW : ToldW w w3 0 l3 (.slice ak n ck) (.slice aa n ca) (.slice ao n co) (l3.map Thing.key) (l3.map Thing.v) := by
    rw [List.length_map, hn] at r2 r3
    rw [hn] at ro fo f2 f3
    refine ⟨k12.trans k3 (fun _ _ x => x), r2.at_block (fun b hb => k3.block b (World.ownsRow.lt r2 b hb).2 id), r3, ro.at_block (fun b hb => (k2.trans k3 (fun _ _ x => x)).block b (World.ownsRow.lt ro b hb).2 id), by simp, by simp, fun _ _ => rfl, fun _ _ => rfl, fun b hb => Nat.le_trans k1.size (f2 b hb), fun b hb => Nat.le_trans k12.size (f3 b hb), fun b hb e => ?_, fun b hb e => ?_, fun b hb e => ?_⟩
    · have := f3 b e; have := (World.ownsRow.lt r2 b hb).2; omega
    · have := f2 b hb; have := (World.ownsRow.lt ro b e).2; omega
    · have := f3 b hb; have := (World.ownsRow.lt ro b e).2; have := k2.size; omega
  rw [hn]
  clear hall hks has po so ro fo k1 p2 s2 r2 f2 k2 k12 p3 s3 r3 f3 k3 h hr
  go_wp2_with fail
  go_loopw [8] (fun iv wr => ∃ (i : Nat) (ks vs : List Int), iv = .int .i64 i ∧ i ≤ n ∧ ToldW w wr i l3 (.slice ak n ck) (.slice aa n ca) (.slice ao n co) ks vs) (fun iv _ => n - (intOf iv).toNat)
  case atStart => exact ⟨0, _, _, rfl, Nat.zero_le _, hW⟩
  case round =>
    clear hW
    obtain ⟨i, ks, vs, rfl, hi, hW⟩ := hrel
    have iz : (0 : Int) ≤ i := by omega
    by_cases hlt : (i : Int) < n
    · have hil : i < l3.length := by omega
      obtain ⟨gk, ck', ek, hgk, xk⟩ := hW.rk.int1 (i := i) (by rw [hW.lk]; exact hil)
      obtain ⟨ga, ca', ea, hga, xa⟩ := hW.ra.int1 (i := i) (by rw [hW.la]; exact hil)
      rw [hW.lk, hn] at ek
      rw [hW.la, hn] at ea
      cases ek
      cases ea
      obtain ⟨x, hx⟩ : ∃ x, l3[i] = x := ⟨_, rfl⟩
      have yk : ks.getD i 0 = x.key := by
        rw [List.getD_eq_getElem?_getD, hW.ek i (Nat.le_refl _)]; simp [hil, hx]
      have ya : vs.getD i 0 = x.v := by
        rw [List.getD_eq_getElem?_getD, hW.ea i (Nat.le_refl _)]; simp [hil, hx]
      rw [yk] at xk
      rw [ya] at xa
      obtain ⟨go_, rfl⟩ : ∃ g, ao = some ⟨g, 0, none⟩ := by
        rcases hW.ro.form with ⟨_, e⟩ | ⟨b, c', e⟩
        · rw [e] at hil; simp at hil
        · injection e with e1 _ _; exact ⟨b, e1⟩
      have hro : RowAt wr 94 3 encI go_ co l3 := by
        have : RowV wr 94 3 encI (.slice (some ⟨go_, 0, none⟩) l3.length co) l3 := by rw [hn]; exact hW.ro
        exact this
      have hrk : RowAt wr 2 1 enc1 gk ck ks := by
        have : RowV wr 2 1 enc1 (.slice (some ⟨gk, 0, none⟩) ks.length ck) ks := by rw [hW.lk, hn]; exact hW.rk
        exact this
      have hra : RowAt wr 3 1 enc1 ga ca vs := by
        have : RowV wr 3 1 enc1 (.slice (some ⟨ga, 0, none⟩) vs.length ca) vs := by rw [hW.la, hn]; exact hW.ra
        exact this
      have z0 := hro.cell encI_len hil (j := 0) (by omega)
      have z2 := hro.cell encI_len hil (j := 2) (by omega)
      rw [hx] at z0 z2
      have y0 : wr.cell? ⟨go_, i * 3, none⟩ = some (.int .i64 x.key) := z0
      have y2 : wr.cell? ⟨go_, i * 3 + 2, none⟩ = some (.int .i64 x.v) := z2
      have fzk := hrk.frozen i
      have fza := hra.frozen i
      have hka : ¬ ga = gk := fun e => hW.ka gk rfl (by rw [e]; rfl)
      have hak : ¬ gk = ga := fun e => hka e.symm
      have hnat : ¬ n ≤ i := by omega
      have hfin : ∀ W, Keeps NoBlk wr W → ToldW w ((W.setCell ⟨gk, i, none⟩ (.int .i64 7)).setCell ⟨ga, i, none⟩ (.int .i64 7)) (i + 1) l3 (.slice (some ⟨gk, 0, none⟩) n ck) (.slice (some ⟨ga, 0, none⟩) n ca) (.slice (some ⟨go_, 0, none⟩) n co) (ks.set i 7) (vs.set i 7) := fun W hk => by
        have a1 := hrk.at_block (hk.block gk hrk.lt id)
        have b1 := hra.at_block (hk.block ga hra.lt id)
        have a2 := a1.int1 (i := i) (by rw [hW.lk]; exact hil) 7
        have b2 : RowAt (W.setCell ⟨gk, i, none⟩ (.int .i64 7)) 3 1 enc1 ga ca vs := b1.at_block (Below.heap_setCell _ _ _ _ hka)
        have b3 := b2.int1 (i := i) (by rw [hW.la]; exact hil) 7
        have a3 : RowAt ((W.setCell ⟨gk, i, none⟩ (.int .i64 7)).setCell ⟨ga, i, none⟩ (.int .i64 7)) 2 1 enc1 gk ck (ks.set i 7) := a2.at_block (Below.heap_setCell _ _ _ _ hak)
        have o1 : RowV W 94 3 encI (.slice (some ⟨go_, 0, none⟩) n co) l3 := hW.ro.at_block (fun b hb => hk.block b (World.ownsRow.lt hW.ro b hb).2 id)
        have gk1 := hW.fk gk rfl
        have ga1 := hW.fa ga rfl
        refine ⟨((hW.kp.trans hk (fun _ _ x => x)).setCell (p := ⟨gk, i, none⟩) (fun e => by have e' : gk < w.heap.size := e; omega) _).setCell (p := ⟨ga, i, none⟩) (fun e => by have e' : ga < w.heap.size := e; omega) _, ?_, ?_, ?_, by simpa using hW.lk, by simpa using hW.la, fun j hj => ?_, fun j hj => ?_, hW.fk, hW.fa, hW.ka, hW.ko, hW.ao⟩
        · have : RowV ((W.setCell ⟨gk, i, none⟩ (.int .i64 7)).setCell ⟨ga, i, none⟩ (.int .i64 7)) 2 1 enc1 (.slice (some ⟨gk, 0, none⟩) (ks.set i 7).length ck) (ks.set i 7) := a3
          rw [List.length_set, hW.lk, hn] at this
          exact this
        · have : RowV ((W.setCell ⟨gk, i, none⟩ (.int .i64 7)).setCell ⟨ga, i, none⟩ (.int .i64 7)) 3 1 enc1 (.slice (some ⟨ga, 0, none⟩) (vs.set i 7).length ca) (vs.set i 7) := b3
          rw [List.length_set, hW.la, hn] at this
          exact this
        · refine o1.at_block (fun b hb => ?_)
          have n1 : b ≠ ga := fun e => hW.ao ga rfl (by rw [← e]; exact hb)
          have n2 : b ≠ gk := fun e => hW.ko gk rfl (by rw [← e]; exact hb)
          exact (Below.heap_setCell _ _ _ _ n1).trans (Below.heap_setCell _ _ _ _ n2)
        · rw [List.getElem?_set, if_neg (by omega)]; exact hW.ek j (by omega)
        · rw [List.getElem?_set, if_neg (by omega)]; exact hW.ea j (by omega)
      clear hW hx yk ya z0 z2 hro hrk hra
      go_wp2_with fail
      go_quiet (fail)
      go_wp2_with fail
      go_roundw
      case rel => exact ⟨i + 1, _, _, by go_num, by omega, hfin _ ((Keeps.refl _ _).drewN nq)⟩
      case measure => simp [intOf]; omega
    · have hin : i = n := by omega
      subst hin
      have hkp := hW.kp
      go_wp2_with fail
      go_ret
      exact ⟨rfl, hkp⟩

end Go.Proofs.Ytofdcmbjcpfabaa
