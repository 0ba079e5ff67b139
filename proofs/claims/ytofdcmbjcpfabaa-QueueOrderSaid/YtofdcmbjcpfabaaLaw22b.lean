/- QueueOrder: the walk. -/
import Derived.Test.YtofdcmbjcpfabaaLaw22o
namespace Go.Proofs.Ytofdcmbjcpfabaa
open Go.RowKit Go.Maps Go.MapKept Go.ChangeMaps
attribute [local go_sem ↓] Go.wp_at_zero Go.wp_at_succ

/-- v is a slice whose elements are the bools bs. -/
def Bools (w : World) (v : Value) (bs : List Bool) : Prop :=
  ∃ a cap, v = .slice a bs.length cap ∧ (bs ≠ [] → ∃ b off, a = some ⟨b, off, none⟩ ∧ b < w.heap.size ∧ ∀ j, j < bs.length → w.cell? ⟨b, off + j, none⟩ = some (.bool (bs.getD j false)))

theorem Bools.at {w : World} {v : Value} {bs : List Bool} (h : Bools w v bs) {j : Nat} (hj : j < bs.length) : ∃ b off cap, v = .slice (some ⟨b, off, none⟩) bs.length cap ∧ b < w.heap.size ∧ w.cell? ⟨b, off + j, none⟩ = some (.bool (bs.getD j false)) := by
  obtain ⟨a, cap, e, h⟩ := h
  obtain ⟨b, off, rfl, hb, hc⟩ := h (fun e => by subst e; simp at hj)
  exact ⟨b, off, cap, e, hb, hc j hj⟩

/-- The sticky task of QueueOrder. -/
def mine22 (ready : Int) : Task := ⟨⟨#[97]⟩, ⟨#[109, 105, 110, 101]⟩, ready, 0⟩

theorem forB_other {ready grace now : Int} (h0 : 0 ≤ ready) (h1 : ready ≤ 1000) (h2 : 0 ≤ grace) (h3 : grace ≤ 1000) : forB grace (mine22 ready) ⟨#[111, 116, 104, 101, 114]⟩ now = decide (ready + grace ≤ now) := by
  unfold forB mine22
  have e1 : (⟨#[109, 105, 110, 101]⟩ : ByteArray).toList.isEmpty = false := by decide +kernel
  have e2 : ((⟨#[109, 105, 110, 101]⟩ : ByteArray).toList == (⟨#[111, 116, 104, 101, 114]⟩ : ByteArray).toList) = false := by decide +kernel
  have e3 : addI ready grace = ready + grace := by unfold addI; rw [if_neg (by omega), if_neg (by omega)]
  simp only [e1, e2, e3, Bool.false_or]
  by_cases h : ready + grace ≤ now
  · simp [h]; omega
  · simp [h]

theorem forB_mine {ready grace now : Int} : forB grace (mine22 ready) ⟨#[109, 105, 110, 101]⟩ now = decide (ready ≤ now) := by
  unfold forB mine22
  simp

theorem idxI_one {P : Task → Bool} {t : Task} : idxI P [t] = if P t = true then 0 else -1 := by
  by_cases h : P t = true
  · rw [if_pos h, idxI_cons_hit h]
  · rw [if_neg h, idxI_miss (fun j hj => by
      have : j = 0 := by simp at hj; omega
      subst this; simpa using h)]

/-- Poll where one task waits. -/
theorem qpoll_one {w : World} {p : Nat} {S : Nat → Prop} {grace ready : Int} (h : IsQ w p S ((QS.new 1 grace).wait (mine22 ready))) (who : ByteArray) (now : Int) (hnow : I64 now) (b : Bool) (hb : forB grace (mine22 ready) who now = b) :
    Calls Try.prog 22 #[.pointer (some ⟨p, 0, none⟩), .string who, .int .i64 now, .int .i64 1] w fun e w' => ∃ k t a, e = .returned (.tuple #[.string k, .int .i64 t, .int .i64 a, .int .i64 (if b then 0 else 5)]) ∧ Keeps S w w' := by
  have hi : idxI (fun t => forB ((QS.new 1 grace).wait (mine22 ready)).grace t who now) ((QS.new 1 grace).wait (mine22 ready)).waits = if b = true then 0 else -1 := by
    show idxI (fun t => forB grace t who now) [mine22 ready] = _
    rw [idxI_one, hb]
  cases b with
  | true =>
    refine (qpollHit_o h who now 1 (by omega) (by omega) hnow 0 (mine22 ready) rfl hi (by show (1 : Int) < _; omega) (by show (0 : Int) < _; omega)).mono ?_
    rintro e w' ⟨rfl, S', _, m⟩
    exact ⟨_, _, _, rfl, m.keeps⟩
  | false =>
    refine (qpollNone_o h who now 1 (by omega) hi).mono ?_
    rintro e w' ⟨rfl, hk⟩
    exact ⟨_, _, _, rfl, hk.of_none⟩

set_option maxRecDepth 100000 in
set_option maxHeartbeats 8000000 in
theorem order22_c (w : World) (n ready grace now : Int) (bv : Value) (bs : List Bool) (hb : Bools w bv bs) (hn : I64 n) (hnow : I64 now) :
    Calls Try.prog 3 #[.int .i64 n, bv, .int .i64 ready, .int .i64 grace, .int .i64 now] w fun e w' => e = .returned (.bool true) ∧ Below w.heap.size w w' := by
  obtain ⟨nn0, nn1⟩ := hn
  obtain ⟨ba, bc, e1, _⟩ := id hb
  subst e1
  have hnn : ∀ x : Nat, w.heap.size ≤ x ∨ x < w.heap.size := fun x => by omega
  go_enter Try.func3, Try.ntmps3
  go_wp2_with fail
  refine (awake22_c w).mono ?_
  rintro e w0 ⟨rfl, k0⟩
  by_cases b1 : n < 0
  · go_wp2_with fail
    go_ret
    exact ⟨by simp, k0.below (Nat.le_refl _) (fun _ x => x.elim)⟩
  by_cases b2 : 40 < n
  · go_wp2_with fail
    go_ret
    exact ⟨by simp, k0.below (Nat.le_refl _) (fun _ x => x.elim)⟩
  obtain ⟨m, rfl⟩ : ∃ m : Nat, n = m := Int.eq_ofNat_of_zero_le (by omega)
  have hm40 : m ≤ 40 := by omega
  go_wp2_with fail
  refine (qnew_o w0 40 0 (by unfold BadNew; omega) (by omega)).mono ?_
  rintro e w1 ⟨p, S1, rfl, h1, m1⟩
  have M1 : Moves NoBlk w S1 w1 := ⟨k0.trans m1.keeps (fun _ _ x => x), fun k hk => .inr (Nat.le_trans k0.size ((m1.foot k hk).resolve_left id))⟩
  clear m1
  go_wp2_with fail
  go_loopw [14, 16] (fun sv iv wr => ∃ (i : Nat) (S : Nat → Prop) (q : QS), sv = .string (cat (nms i)) ∧ iv = .int .i64 i ∧ i ≤ m ∧ IsQ wr p S q ∧ PutQ i q ∧ Moves NoBlk w S wr) (fun _ iv _ => m - (intOf iv).toNat)
  case atStart => exact ⟨0, S1, _, rfl, rfl, Nat.zero_le _, h1, PutQ.start, M1⟩
  case round =>
    clear h1 M1 k0
    obtain ⟨i, S, q, rfl, rfl, hi, hh, hp, hm⟩ := hrel
    have i0 : (0 : Int) ≤ i := by omega
    by_cases hlt : (i : Int) < m
    · as_aux_lemma =>
        have hput : Calls Try.prog 20 #[.pointer (some ⟨p, 0, none⟩), .string (nm i), .string ⟨#[]⟩, .int .i64 0] wr fun e w' => e = .returned (.int .i64 0) ∧ ∃ S' q', IsQ w' p S' q' ∧ Hid (PutQ (i + 1) q') ∧ Moves S wr S' w' := by
          have hl : q.waits.length = i := by rw [hp.waits]; simp
          refine (qputOk_o hh (nm i) ⟨#[]⟩ 0 (by rw [nm_size (by omega)]; decide) ⟨by omega, by omega⟩ (hp.there i (Nat.le_refl _) (by omega)) (by rw [hp.most, hl]; omega) (by rw [hl]; omega)).mono ?_
          rintro e w' ⟨rfl, S', h', m'⟩
          exact ⟨rfl, S', _, h', hp.step (by omega), m'⟩
        have hsz : (cat (nms i)).size = i := by rw [cat_size _ (fun x hx => by obtain ⟨j, hj, rfl⟩ := List.mem_map.1 hx; rw [List.mem_range] at hj; exact nm_size (by omega))]; simp
        have hs2 : ¬ 9223372036854775807 < (cat (nms i)).size + (min (i + 1) 52 - i) := by omega
        clear hp hh hsz
        go_wp2_with fail
        refine hput.mono ?_
        rintro e w2 ⟨rfl, S2, q2, h2, hp2, m2⟩
        go_wp2_with fail
        go_roundw
        case rel => exact ⟨i + 1, S2, q2, (by rw [nms_succ, cat_snoc]; rfl), by go_num, by omega, h2, hp2.out, hm.trans m2⟩
        case measure => simp [intOf]; omega
    · as_aux_lemma =>
        have him : i = m := by omega
        subst him
        have hord := OrdQ.start hp hm40
        clear hp
        go_wp2_with fail
        go_loopw [15, 17] (fun av gv wr => ∃ (k : Nat) (F : List ByteArray) (S : Nat → Prop) (q : QS), av = .string (cat (F.drop i)) ∧ gv = .string (cat (F.take k)) ∧ IsQ wr p S q ∧ Hid (OrdQ i k F q) ∧ Moves NoBlk w S wr) (fun _ gv _ => 2 * i - (match gv with | .string s => s.size | _ => 0))
        case atStart => exact ⟨0, nms i, S, q, (by rw [List.drop_of_length_le (by simp)]; rfl), rfl, hh, hord, hm⟩
        case round =>
          clear hm hh hord
          obtain ⟨k, F, S, q, rfl, rfl, hh, ho, hm⟩ := hrel
          have hlen := qlen_o hh
          rw [ho.out.len] at hlen
          have hgs : (cat (F.take k)).size = k := by rw [cat_size _ (fun x hx => ho.out.sz x (List.mem_of_mem_take hx)), List.length_take, Nat.min_eq_left ho.out.kl]
          by_cases hk : k < F.length
          · as_aux_lemma =>
            have hF := ho.out.fl
            have hi40 := ho.out.nn
            obtain ⟨x, hx⟩ : ∃ x, F.getD k ⟨#[]⟩ = x := ⟨_, rfl⟩
            have hx1 : x.size = 1 := by
              rw [← hx, show F.getD k ⟨#[]⟩ = F[k] by simp [hk]]
              exact ho.out.sz _ (List.getElem_mem hk)
            have hpoll : Calls Try.prog 22 #[.pointer (some ⟨p, 0, none⟩), .string ⟨#[119]⟩, .int .i64 0, .int .i64 5] wr fun e w' => e = .returned (.tuple #[.string x, .int .i64 (k + 1), .int .i64 ((if k < i then 0 else 1) + 1), .int .i64 0]) ∧ ∃ S', IsQ w' p S' (q.hand 0 (tk i F k) ⟨#[119]⟩ 5) ∧ Moves S wr S' w' := by
              have h9 := qpollHit_o hh ⟨#[119]⟩ 0 5 (by omega) (by omega) ⟨by omega, by omega⟩ 0 (tk i F k) (by rw [ho.out.head hk]; rfl) (ho.out.first hk _) (by rw [ho.out.next]; omega) (by unfold tk; simp only; split <;> omega)
              rw [ho.out.next] at h9
              rw [← hx]
              exact h9
            have hs1 : ¬ 9223372036854775807 < k + x.size := by omega
            have hs0 : (cat (F.drop i)).size = F.length - i := by rw [cat_size _ (fun y hy => ho.out.sz y (List.mem_of_mem_drop hy)), List.length_drop]
            have hs2 : ¬ 9223372036854775807 < (cat (F.drop i)).size + x.size := by omega
            have hgt : Hid (cat (F.take (k + 1)) = cat (F.take k) ++ x) := by show _ = _; rw [take_snoc' F hk, hx, cat_snoc]
            have hlk : decide ((0 : Int) < ((F.length - k : Nat) : Int)) = true := by simp; omega
            have hk0 : (0 : Int) ≤ k := by omega
            have hk80 : (k : Int) ≤ 80 := by omega
            have hxh : Hid (F.getD k ⟨#[]⟩ = x) := hx
            have hdone : ∀ w2 S2, IsQ w2 p S2 (q.hand 0 (tk i F k) ⟨#[119]⟩ 5) → Calls Try.prog 24 #[.pointer (some ⟨p, 0, none⟩), .int .i64 (k + 1)] w2 fun e w' => ∃ v0 v1, e = .returned (.tuple #[.string v0, .int .i64 v1, .int .i64 0]) ∧ ∃ q', IsQ w' p S2 q' ∧ Hid (OrdQ i (k + 1) F q') ∧ Moves S2 w2 S2 w' := fun w2 S2 h2 =>
              (qdoneYes_o h2 (k + 1) ⟨by omega, by omega⟩ ⟨{ tk i F k with att := (tk i F k).att + 1 }, q.next, ⟨#[119]⟩, 5⟩ (by show fput q.outs q.next _ (k + 1) = _; rw [← ho.out.next]; exact fput_same _ _ _)).mono fun e w' ⟨a1, a2, a3⟩ => ⟨_, _, a1, _, a2, ho.out.done hk _ _ _, a3⟩
            by_cases hki : k < i
            · rw [if_pos hki] at hpoll
              by_cases hbl : k < bs.length
              · cases hbk : bs.getD k false with
                | true =>
                  as_aux_lemma =>
                  have hback : ∀ w2 S2, IsQ w2 p S2 (q.hand 0 (tk i F k) ⟨#[119]⟩ 5) → Calls Try.prog 23 #[.pointer (some ⟨p, 0, none⟩), .int .i64 (k + 1), .int .i64 0] w2 fun e w' => ∃ v0 v1, e = .returned (.tuple #[.string v0, .int .i64 v1, .int .i64 0]) ∧ ∃ S' q', IsQ w' p S' q' ∧ Hid (OrdQ i (k + 1) (F ++ [x]) q') ∧ Moves S2 w2 S' w' := fun w2 S2 h2 => by
                    have h9 := qbackYes_o h2 (k + 1) 0 ⟨by omega, by omega⟩ ⟨by omega, by omega⟩ ⟨{ tk i F k with att := (tk i F k).att + 1 }, q.next, ⟨#[119]⟩, 5⟩ (by show fput q.outs q.next _ (k + 1) = _; rw [← ho.out.next]; exact fput_same _ _ _) (by show (q.waits.eraseIdx 0).length < _; rw [ho.out.head hk]; simp; omega)
                    have h8 := ho.out.back hki ⟨#[119]⟩ 5
                    rw [hxh.out] at h8
                    rw [ho.out.next] at h9
                    exact h9.mono fun e w' ⟨a1, S', a2, a3⟩ => ⟨_, _, a1, S', _, a2, h8, a3⟩
                  obtain ⟨Bb, ob, cb, eb, hBb, hcb⟩ := hb.at hbl
                  have eba : ba = some ⟨Bb, ob, none⟩ := by injection eb
                  subst eba
                  rw [hbk] at hcb
                  have hbl' : (k : Int) + 1 ≤ bs.length := by omega
                  have hbl2 : (k : Int) < bs.length := by omega
                  have hfd : Hid (cat ((F ++ [x]).drop i) = cat (F.drop i) ++ x) := by show _ = _; rw [List.drop_append_of_le_length ho.out.nl, cat_snoc]
                  have hft : Hid (cat ((F ++ [x]).take (k + 1)) = cat (F.take k) ++ x) := by show _ = _; rw [List.take_append_of_le_length (by omega), hgt.out]
                  have hszt : Hid ((cat (F.take k) ++ x).size = k + 1) := by show _ = _; rw [ByteArray.size_append, hgs, hx1]
                  clear ho hs0 hx eb hbk hx1
                  go_wp2_with (go_at_call 21; refine hlen.mono ?_; rintro e w9 ⟨rfl, rfl⟩)
                  refine hpoll.mono ?_
                  rintro e w2 ⟨rfl, S2, h2, m2⟩
                  have hc2 := ((hm.trans m2).keeps.cell (p := ⟨Bb, ob + k, none⟩) hBb id).trans hcb
                  go_wp2_with fail
                  refine (hback w2 S2 h2).mono ?_
                  rintro e w3 ⟨v0, v1, rfl, S3, q3, h3, ho3, m3⟩
                  clear hback hpoll hdone
                  go_wp2_with fail
                  go_roundw
                  case rel => exact ⟨k + 1, F ++ [x], S3, q3, (by rw [hfd.out]), (by rw [hft.out]), h3, ho3.out, (hm.trans m2).trans m3⟩
                  case measure => simp only [hszt.out, hgs]; omega
                | false =>
                  as_aux_lemma =>
                    have hszt : Hid ((cat (F.take k) ++ x).size = k + 1) := by show _ = _; rw [ByteArray.size_append, hgs, hx1]
                    obtain ⟨Bb, ob, cb, eb, hBb, hcb⟩ := hb.at hbl
                    have eba : ba = some ⟨Bb, ob, none⟩ := by injection eb
                    subst eba
                    rw [hbk] at hcb
                    have hbl' : (k : Int) + 1 ≤ bs.length := by omega
                    have hbl2 : (k : Int) < bs.length := by omega
                    clear eb hbk
                    clear ho hs0 hx hx1
                    go_wp2_with (go_at_call 21; refine hlen.mono ?_; rintro e w9 ⟨rfl, rfl⟩)
                    refine hpoll.mono ?_
                    rintro e w2 ⟨rfl, S2, h2, m2⟩
                    have hc2 := ((hm.trans m2).keeps.cell (p := ⟨Bb, ob + k, none⟩) hBb id).trans hcb
                    go_wp2_with fail
                    refine (hdone w2 S2 h2).mono ?_
                    rintro e w3 ⟨v0, v1, rfl, q3, h3, ho3, m3⟩
                    clear hpoll hdone
                    go_wp2_with fail
                    go_roundw
                    case rel => exact ⟨k + 1, F, S2, q3, rfl, (by rw [hgt.out]), h3, ho3.out, (hm.trans m2).trans m3⟩
                    case measure => simp only [hszt.out, hgs]; omega
              · as_aux_lemma =>
                  have hszt : Hid ((cat (F.take k) ++ x).size = k + 1) := by show _ = _; rw [ByteArray.size_append, hgs, hx1]
                  have hbl' : ¬ (k : Int) + 1 ≤ bs.length := by omega
                  clear ho hs0 hx hx1
                  go_wp2_with (go_at_call 21; refine hlen.mono ?_; rintro e w9 ⟨rfl, rfl⟩)
                  refine hpoll.mono ?_
                  rintro e w2 ⟨rfl, S2, h2, m2⟩
                  go_wp2_with fail
                  refine (hdone w2 S2 h2).mono ?_
                  rintro e w3 ⟨v0, v1, rfl, q3, h3, ho3, m3⟩
                  clear hpoll hdone
                  go_wp2_with fail
                  go_roundw
                  case rel => exact ⟨k + 1, F, S2, q3, rfl, (by rw [hgt.out]), h3, ho3.out, (hm.trans m2).trans m3⟩
                  case measure => simp only [hszt.out, hgs]; omega
            · as_aux_lemma =>
                have hszt : Hid ((cat (F.take k) ++ x).size = k + 1) := by show _ = _; rw [ByteArray.size_append, hgs, hx1]
                rw [if_neg hki] at hpoll
                clear ho hs0 hx hx1
                go_wp2_with (go_at_call 21; refine hlen.mono ?_; rintro e w9 ⟨rfl, rfl⟩)
                refine hpoll.mono ?_
                rintro e w2 ⟨rfl, S2, h2, m2⟩
                go_wp2_with fail
                refine (hdone w2 S2 h2).mono ?_
                rintro e w3 ⟨v0, v1, rfl, q3, h3, ho3, m3⟩
                clear hpoll hdone
                go_wp2_with fail
                go_roundw
                case rel => exact ⟨k + 1, F, S2, q3, rfl, (by rw [hgt.out]), h3, ho3.out, (hm.trans m2).trans m3⟩
                case measure => simp only [hszt.out, hgs]; omega
          · as_aux_lemma =>
            have hkF : k = F.length := by have := ho.out.kl; omega
            have hgb : ((cat F).toList == (cat (nms i) ++ cat (F.drop i)).toList) = true := by
              rw [← cat_app, ← ho.out.pre, List.take_append_drop]; simp
            have hs0 : (cat (F.drop i)).size = F.length - i := by rw [cat_size _ (fun y hy => ho.out.sz y (List.mem_of_mem_drop hy)), List.length_drop]
            have hs1 : (cat (nms i)).size = i := by rw [cat_size _ (fun x hx => by obtain ⟨j, hj, rfl⟩ := List.mem_map.1 hx; rw [List.mem_range] at hj; exact nm_size (by omega))]; simp
            have hF := ho.out.fl
            have hs2 : ¬ 9223372036854775807 < (cat (nms i)).size + (cat (F.drop i)).size := by omega
            rw [show F.length - k = 0 by omega] at hlen
            have hbel := hm.keeps
            clear ho hs0 hs1 hgs
            have hend : ∀ W, Keeps NoBlk w W → Below w.heap.size w W := fun W hW => hW.below (Nat.le_refl _) (fun _ x => x.elim)
            by_cases r1 : ready < 0
            · go_wp2_with (go_at_call 21; refine hlen.mono ?_; rintro e w9 ⟨rfl, rfl⟩)
              go_ret
              exact ⟨by simp, hend _ hbel⟩
            by_cases r2 : 1000 < ready
            · go_wp2_with (go_at_call 21; refine hlen.mono ?_; rintro e w9 ⟨rfl, rfl⟩)
              go_ret
              exact ⟨by simp, hend _ hbel⟩
            by_cases r3 : grace < 0
            · go_wp2_with (go_at_call 21; refine hlen.mono ?_; rintro e w9 ⟨rfl, rfl⟩)
              go_ret
              exact ⟨by simp, hend _ hbel⟩
            by_cases r4 : 1000 < grace
            · go_wp2_with (go_at_call 21; refine hlen.mono ?_; rintro e w9 ⟨rfl, rfl⟩)
              go_ret
              exact ⟨by simp, hend _ hbel⟩
            go_wp2_with (go_at_call 21; refine hlen.mono ?_; rintro e w9 ⟨rfl, rfl⟩)
            refine (qnew_o wr 1 grace (by unfold BadNew; omega) (by omega)).mono ?_
            rintro e w4 ⟨p4, S4, rfl, h4, m4⟩
            have hput : Calls Try.prog 20 #[.pointer (some ⟨p4, 0, none⟩), .string ⟨#[97]⟩, .string ⟨#[109, 105, 110, 101]⟩, .int .i64 ready] w4 fun e w' => e = .returned (.int .i64 0) ∧ ∃ S', IsQ w' p4 S' ((QS.new 1 grace).wait ⟨⟨#[97]⟩, ⟨#[109, 105, 110, 101]⟩, ready, 0⟩) ∧ Moves S4 w4 S' w' :=
              qputOk_o h4 ⟨#[97]⟩ ⟨#[109, 105, 110, 101]⟩ ready (by decide) ⟨by omega, by omega⟩ rfl (by show ¬ (1 : Int) ≤ ((0 : Nat) : Int); omega) (by show (0 : Nat) < _; omega)
            go_wp2_with fail
            refine hput.mono ?_
            rintro e w5 ⟨rfl, S5, h5, m5⟩
            go_wp2_with fail
            refine (qtwin_o h5).mono ?_
            rintro e w6 ⟨p6, S6, rfl, h6, f6, k6⟩
            have h56 := h5.keep k6 (fun _ _ x => x)
            have hps := fun b hb => qpoll_one h56 ⟨#[111, 116, 104, 101, 114]⟩ now hnow b ((forB_other (by omega) (by omega) (by omega) (by omega)).trans hb)
            have hd6 : ∀ k, S6 k → ¬ S5 k := fun k h1 h2 => by have := f6 k h1; have := h5.lt k h2; omega
            have hK : Keeps NoBlk w w6 := ((hbel.trans m4.keeps (fun _ _ x => x)).trans m5.keeps (fun k hk hs => by have := (m4.foot k hs).resolve_left id; have := hbel.size; omega)).trans k6 (fun _ _ x => x)
            have hS5 : ∀ k, S5 k → w.heap.size ≤ k := fun k hk => by
              have h1 := hbel.size
              have h2 := m4.keeps.size
              rcases m5.foot k hk with h | h
              · have := (m4.foot k h).resolve_left id; omega
              · omega
            have hS6 : ∀ k, S6 k → w.heap.size ≤ k := fun k hk => by
              have h1 := hbel.size
              have h2 := m4.keeps.size
              have h3 := m5.keeps.size
              have := f6 k hk; omega
            have hsum : IntKind.i64.wrap (ready + grace) = ready + grace := w64 (by omega)
            clear h56 h5 m5 h4 m4 hm hh
            by_cases q1 : ready + grace ≤ now
            · have q2 : ready ≤ now := by omega
              have hps1 := hps true (by simpa using q1)
              simp only [if_true] at hps1
              clear hps
              go_wp2_with fail
              refine hps1.mono ?_
              rintro e w7 ⟨v0, v1, v2, rfl, k7⟩
              have hpt := qpoll_one (h6.keep k7 hd6) ⟨#[109, 105, 110, 101]⟩ now hnow true (forB_mine.trans (by simpa using q2))
              simp only [if_true] at hpt
              have hK7 : Keeps NoBlk w w7 := hK.trans k7 (fun k hk hs => by have := hS5 k hs; omega)
              clear hps1
              go_wp2_with fail
              refine hpt.mono ?_
              rintro e w8 ⟨v3, v4, v5, rfl, k8⟩
              have hK8 : Keeps NoBlk w w8 := hK7.trans k8 (fun k hk hs => by have := hS6 k hs; omega)
              clear hpt
              go_wp2_with fail
              go_ret
              exact ⟨by simp, hend _ hK8⟩
            · by_cases q2 : ready ≤ now
              · have hps1 := hps false (by simpa using q1)
                simp only [Bool.false_eq_true, if_false] at hps1
                clear hps
                go_wp2_with fail
                refine hps1.mono ?_
                rintro e w7 ⟨v0, v1, v2, rfl, k7⟩
                have hpt := qpoll_one (h6.keep k7 hd6) ⟨#[109, 105, 110, 101]⟩ now hnow true (forB_mine.trans (by simpa using q2))
                simp only [if_true] at hpt
                have hK7 : Keeps NoBlk w w7 := hK.trans k7 (fun k hk hs => by have := hS5 k hs; omega)
                clear hps1
                go_wp2_with fail
                refine hpt.mono ?_
                rintro e w8 ⟨v3, v4, v5, rfl, k8⟩
                have hK8 : Keeps NoBlk w w8 := hK7.trans k8 (fun k hk hs => by have := hS6 k hs; omega)
                clear hpt
                go_wp2_with fail
                go_ret
                exact ⟨by simp; omega, hend _ hK8⟩
              · have hps1 := hps false (by simpa using q1)
                simp only [Bool.false_eq_true, if_false] at hps1
                clear hps
                go_wp2_with fail
                refine hps1.mono ?_
                rintro e w7 ⟨v0, v1, v2, rfl, k7⟩
                have hpt := qpoll_one (h6.keep k7 hd6) ⟨#[109, 105, 110, 101]⟩ now hnow false (forB_mine.trans (by simpa using q2))
                simp only [Bool.false_eq_true, if_false] at hpt
                have hK7 : Keeps NoBlk w w7 := hK.trans k7 (fun k hk hs => by have := hS5 k hs; omega)
                clear hps1
                go_wp2_with fail
                refine hpt.mono ?_
                rintro e w8 ⟨v3, v4, v5, rfl, k8⟩
                have hK8 : Keeps NoBlk w w8 := hK7.trans k8 (fun k hk hs => by have := hS6 k hs; omega)
                clear hpt
                go_wp2_with fail
                go_ret
                exact ⟨by simp; omega, hend _ hK8⟩

end Go.Proofs.Ytofdcmbjcpfabaa
