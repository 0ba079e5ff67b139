/- TimersOnce: the walk. -/
import Derived.Test.YtofdcmbjcpfabaaLaw21b
import Derived.Test.YtofdcmbjcpfabaaLaw03c
namespace Go.Proofs.Ytofdcmbjcpfabaa
open Go.RowKit Go.Maps Go.MapKept Go.ChangeMaps
attribute [local go_sem ↓] Go.wp_at_zero Go.wp_at_succ

/-- What the loops of TimersOnce keep of the worlds. -/
structure OnW (w wr : World) (p : Nat) (S : Nat → Prop) (L : List (Thing Tm)) (n : Int) (g cap : Nat) (tb : List Bool) : Prop where
  kp : Keeps NoBlk w wr
  hh : IsTable wr p S L n
  row : RowAt wr 4 1 encB g cap tb
  ap : ¬ S g
  up : w.heap.size ≤ g
  upS : ∀ k, S k → w.heap.size ≤ k

section
variable {w wr w' : World} {p : Nat} {S : Nat → Prop} {L L' : List (Thing Tm)} {n : Int} {g cap : Nat} {tb : List Bool}

theorem OnW.move (h : OnW w wr p S L n g cap tb) (hh : IsTable w' p S L' n) (hm : Moves S wr S w') : OnW w w' p S L' n g cap tb :=
  ⟨h.kp.trans hm.keeps (fun k hk hs => by have := h.upS k hs; omega), hh, h.row.at_block (hm.keeps.block _ h.row.lt h.ap), h.ap, h.up, h.upS⟩

theorem OnW.keep (h : OnW w wr p S L n g cap tb) (hk : Keeps NoBlk wr w') : OnW w w' p S L n g cap tb :=
  h.move (h.hh.keep hk (fun _ _ x => x)) ⟨hk.of_none, fun _ x => .inl x⟩

theorem OnW.store (h : OnW w wr p S L n g cap tb) {i : Nat} (hi : i < tb.length) (b : Bool) : OnW w (wr.setCell ⟨g, i, none⟩ (.bool b)) p S L n g cap (tb.set i b) := by
  have h1 := h.row.set encB_len hi b
  rw [Nat.mul_one] at h1
  exact ⟨h.kp.setCell (p := ⟨g, i, none⟩) (fun x => by have := h.up; simp only at x; omega) _, h.hh.keep ((Keeps.refl (fun k => k = g) wr).setCell (p := ⟨g, i, none⟩) (fun _ => rfl) _) (fun k hk e => h.ap (e ▸ hk)), h1, h.ap, h.up, h.upS⟩

theorem OnW.filled {w1 w2 : World} {c : Nat} (hh : IsTable w1 p S L n) (hm : Moves NoBlk w S w1) (hr : RowAt w2 4 1 encB w1.heap.size c tb) (hg : w1.grownBy w2 none) : OnW w w2 p S L n w1.heap.size c tb := by
  have k1 : Keeps NoBlk w1 w2 := (Keeps.refl NoBlk w1).grown hg (fun _ e => by cases e)
  exact ⟨hm.keeps.trans k1 (fun _ _ x => x), hh.keep k1 (fun _ _ x => x), hr, fun x => by have := hh.lt _ x; omega, hm.keeps.size, fun k hk => (hm.foot k hk).resolve_left id⟩
end

set_option maxRecDepth 100000 in
set_option maxHeartbeats 8000000 in
theorem once21_c (w : World) (v1 v2 : Value) (ds ts : List Int) (hv1 : Ints w v1 ds) (hv2 : Ints w v2 ts) :
    Calls Try.prog 5 #[v1, v2] w fun e w' => e = .returned (.bool true) ∧ Below w.heap.size w w' := by
  obtain ⟨a1, cap1, e1, _⟩ := id hv1
  obtain ⟨a2, cap2, e2, _⟩ := id hv2
  subst e1 e2
  go_enter Try.func5, Try.ntmps5
  go_wp2_with fail
  refine (awake21_c w).mono ?_
  rintro e w0 ⟨rfl, k0⟩
  by_cases big : (200 : Int) < ds.length ∨ (50 : Int) < ts.length
  · by_cases b1 : (200 : Int) < ds.length
    · go_wp2_with fail
      go_ret
      exact ⟨by simp, k0.below (Nat.le_refl _) (fun _ x => x.elim)⟩
    · have b2 := big.resolve_left b1
      go_wp2_with fail
      go_ret
      exact ⟨by simp, k0.below (Nat.le_refl _) (fun _ x => x.elim)⟩
  have b1 : ¬ (200 : Int) < ds.length := fun x => big (.inl x)
  have b2 : ¬ (50 : Int) < ts.length := fun x => big (.inr x)
  clear big
  go_wp2_with fail
  refine (filled21_c w0 _ ds (hv1.keep k0 (fun _ _ => id)) (by omega)).mono ?_
  rintro e w1 ⟨p, S, rfl, hh1, m1⟩
  have hup : ∀ k, S k → w.heap.size ≤ k := fun k hk => Nat.le_trans k0.size ((m1.foot k hk).resolve_left id)
  obtain ⟨i3, e1, z1, g1⟩ := info_parts info_bool
  go_wp2_with (at_make; refine wpList_make_full _ (by rfl) (.tmp 36) (.tmp 36) 22 (by rfl) 0 4 i3 (.bool false) 1 Try.underlying22 e1 z1 g1.1 .i64 .i64 ds.length ds.length ds.length (by rfl) (by rfl) rfl rfl (by rw [g1.2]; omega) (by unfold maxLen; omega) (Nat.zero_le _) (fun w2 hown hgr => ?_))
  rw [Nat.mul_one] at hown
  have hrow0 : RowAt w2 4 1 encB w1.heap.size ds.length (List.replicate ds.length false) := by
    unfold RowAt RowV
    rw [← flat_false, Nat.mul_one, List.length_replicate]
    exact hown
  have hT0 : OnW w w2 p S ((List.range ds.length).map (th21 ds)) ds.length w1.heap.size ds.length (List.replicate ds.length false) :=
    OnW.filled hh1 ⟨k0.trans m1.keeps (fun _ _ x => x), fun k hk => .inr (hup k hk)⟩ hrow0 hgr
  have hI0 := On1.start ds ts
  generalize w1.heap.size = g at hT0 ⊢
  clear hown hrow0 hgr hh1 m1 e1 z1 g1
  go_wp2_with fail
  go_loopw [8, 9] (fun lv iv wr => ∃ (i : Nat) (L : List (Thing Tm)) (tb : List Bool), lv = .int .i64 L.length ∧ iv = .int .i64 i ∧ i ≤ ts.length ∧ OnW w wr p S L ds.length g ds.length tb ∧ On1 ds ts i L tb ∧ L.length ≤ 200) (fun lv iv _ => ts.length - (intOf iv).toNat)
  case atStart => exact ⟨0, _, _, by simp, rfl, Nat.zero_le _, hT0, hI0, by simp; omega⟩
  case round => as_aux_lemma =>
    obtain ⟨i, L, tb, rfl, rfl, hi, hT, hI, hLl⟩ := hrel
    clear hT0 hI0
    have i0 : (0 : Int) ≤ i := by omega
    by_cases hlt : (i : Int) < ts.length
    · obtain ⟨B2, o2, cap2', ev2, hB2, hc2⟩ := hv2.at (k := i) (by omega)
      cases ev2
      obtain ⟨now, hnow⟩ : ∃ a, ts.getD i 0 = a := ⟨_, rfl⟩
      have c20 := (hT.kp.cell (p := ⟨B2, o2 + i, none⟩) hB2 id).trans (hc2 i (by omega))
      rw [hnow] at c20
      go_wp2_with fail
      refine (due_o wr p S L _ hT.hh now (by omega)).mono ?_
      rintro e w3 ⟨R, L', lv, rfl, hrow, hfr, hdue, hend, hT3, hm3⟩
      have hT4 := hT.move hT3 hm3
      obtain ⟨la, lc, rfl⟩ : ∃ la lc, lv = .slice la R.length lc := by
        rcases hrow.form with ⟨rfl, h⟩ | ⟨gl, lc, rfl⟩
        · have : R = [] := List.map_eq_nil_iff.1 h
          exact ⟨none, 0, by rw [this]; rfl⟩
        · exact ⟨some ⟨gl, 0, none⟩, lc, by simp⟩
      have hlen : L.length = R.length + L'.length := by rw [hdue.perm.length_eq, List.length_append]
      have hgg : ∀ gl, la = some ⟨gl, 0, none⟩ → gl ≠ g := fun gl e eg => by
        subst e eg
        have := hT.row.lt
        have h2 : wr.heap.size ≤ gl := hfr gl rfl
        omega
      go_wp2_with fail
      go_loopw [8, 11] (fun lv kv wr => ∃ (k : Nat) (tb' : List Bool) (left : Int), lv = .int .i64 left ∧ kv = .int .i64 k ∧ k ≤ R.length ∧ OnW w wr p S L' ds.length g ds.length tb' ∧ On2 ds R L' k tb tb' ∧ RowV wr 53 3 encTm (.slice la R.length lc) (R.map Thing.v) ∧ Hid (left + k = L.length)) (fun _ kv _ => R.length - (intOf kv).toNat)
      case atStart => exact ⟨0, tb, L.length, by simp; omega, rfl, Nat.zero_le _, hT4, On2.start hI.len, hrow, (by show (L.length : Int) + 0 = L.length; omega)⟩
      case round => as_aux_lemma =>
        obtain ⟨k, tb', left, rfl, rfl, hk, hT, hO, hrow, hlf⟩ := hrel
        have hlf0 : 0 ≤ left := by have := hlf.out; omega
        have hlf1 : left ≤ 200 := by have := hlf.out; omega
        have kk0 : (0 : Int) ≤ k := by omega
        by_cases hkl : (k : Int) < R.length
        · obtain ⟨x, hx⟩ : ∃ x, R[k]? = some x := ⟨_, List.getElem?_eq_getElem (by omega)⟩
          obtain ⟨hof, htb, hle⟩ := hI.kth (now := now) hdue hO hx
          obtain ⟨n, hn⟩ : ∃ n : Nat, x.num = n := Int.eq_ofNat_of_zero_le hof.1
          have hxe : x = th21 ds n := by have := hof.2.2; rw [hn] at this; simpa using this
          have hnl : n < ds.length := by have := hof.2.1; omega
          rw [hn, Int.toNat_natCast] at htb
          obtain ⟨gl, hla⟩ : ∃ gl, la = some ⟨gl, 0, none⟩ := by
            rcases hrow.form with ⟨_, h⟩ | ⟨gl, c, h⟩
            · have e := List.map_eq_nil_iff.1 h
              have : R.length = 0 := by rw [e]; rfl
              omega
            · injection h with h1 _ _
              exact ⟨gl, h1⟩
          subst hla
          have hrw : RowAt wr 53 3 encTm gl lc (R.map Thing.v) := by
            have := hrow
            rw [show R.length = (R.map Thing.v).length by simp] at this
            exact this
          have hkm : k < (R.map Thing.v).length := by simp; omega
          have hxk : (R.map Thing.v)[k] = (th21 ds n).v := by
            have : (R.map Thing.v)[k]? = some x.v := by rw [List.getElem?_map, hx]; rfl
            rw [List.getElem?_eq_getElem hkm] at this
            rw [← hxe]; exact Option.some.inj this
          have q0 := hrw.cell encTm_len hkm (j := 0) (by omega)
          have q1 := hrw.cell encTm_len hkm (j := 1) (by omega)
          have q2 := hrw.cell encTm_len hkm (j := 2) (by omega)
          rw [hxk] at q0 q1 q2
          obtain ⟨due, hd⟩ : ∃ d, ds.getD n 0 = d := ⟨_, rfl⟩
          have q0' : wr.cell? ⟨gl, k * 3, none⟩ = some (.int .i64 due) := by rw [← hd]; exact q0
          have q1' : wr.cell? ⟨gl, k * 3 + 1, none⟩ = some (.string (own21 n)) := q1
          have q2' : wr.cell? ⟨gl, k * 3 + 2, none⟩ = some (.int .i64 n) := q2
          have hdl : due ≤ now := by rw [hxe] at hle; rw [← hd]; exact hle
          clear q0 q1 q2
          obtain ⟨C, hC⟩ : ∃ C, wr.heap.size = C := ⟨_, rfl⟩
          go_wp2_with fail
          refine name_world ?_
          intro w5 hw5
          have k5 : Keeps NoBlk wr w5 := by subst hw5; exact (Keeps.refl _ _).alloc _
          have t2 : w5.heap[C]? = some (.cells #[.int .i64 due, .string (own21 n), .int .i64 n] 53 (0, 0)) := by subst hw5 hC; exact (heap_alloc_new _ _).trans (by rfl)
          have x0 : w5.cell? ⟨C, 0, none⟩ = some (.int .i64 due) := by rw [cell_of_row _ _ _ _ _ _ t2]; rfl
          have x1 : w5.cell? ⟨C, 1, none⟩ = some (.string (own21 n)) := by rw [cell_of_row _ _ _ _ _ _ t2]; rfl
          have x2 : w5.cell? ⟨C, 2, none⟩ = some (.int .i64 n) := by rw [cell_of_row _ _ _ _ _ _ t2]; rfl
          have hT5 := hT.keep k5
          have hrw5 : RowAt w5 53 3 encTm gl lc (R.map Thing.v) := hrw.at_block (k5.block _ hrw.lt id)
          have c8 := hT5.row.bool (i := n) (by rw [hO.len]; exact hnl)
          have f8 := hT5.row.frozen n
          rw [htb] at c8
          obtain ⟨B1, o1, cap1', ev1, hB1, hc1⟩ := hv1.at hnl
          cases ev1
          have c1 := (hT5.kp.cell (p := ⟨B1, o1 + n, none⟩) hB1 id).trans (hc1 n hnl)
          have c2 := (hT5.kp.cell (p := ⟨B2, o2 + i, none⟩) hB2 id).trans (hc2 i (by omega))
          rw [hd] at c1
          rw [hnow] at c2
          have n0 : (0 : Int) ≤ n := by omega
          have n1 : (n : Int) < ds.length := by omega
          clear hw5 q0' q1' q2' hC
          obtain ⟨par, hp1, hp2⟩ : ∃ b : Bool, ((own21 n).toList == [98]) = b ∧ ((n : Int).tmod 2 == 1) = b := by
            unfold own21
            rw [Int.tmod_eq_emod_of_nonneg (by omega)]
            by_cases h : n % 2 = 1
            · exact ⟨true, by rw [if_pos h]; decide +kernel, by simp; omega⟩
            · exact ⟨false, by rw [if_neg h]; decide +kernel, by simp; omega⟩
          have hggl : gl ≠ g := hgg gl rfl
          go_quiet (fail)
          generalize hw6 : w5.drewN nq = w6
          have k6 : Keeps NoBlk w5 w6 := by subst hw6; exact (Keeps.refl _ _).drewN nq
          have y0 : w6.cell? ⟨C, 0, none⟩ = some (.int .i64 due) := by subst hw6; exact x0
          have y2 : w6.cell? ⟨C, 2, none⟩ = some (.int .i64 n) := by subst hw6; exact x2
          have hT6 := hT5.keep k6
          have hrw6 : RowAt w6 53 3 encTm gl lc (R.map Thing.v) := hrw5.at_block (k6.block _ hrw5.lt id)
          have hO6 := hO.step hx hof
          rw [hn, Int.toNat_natCast] at hO6
          clear hw6 x0 x1 x2 c8 f8 c1 c2 hp2 t2
          have z1 : decide ((n : Int) < 0) = false := by simp
          have z2 : decide (ds.length ≤ n) = false := by simp; omega
          have z3 : decide (now < due) = false := by simp; omega
          go_wp2_with fail
          as_aux_lemma =>
          rcases Nat.eq_zero_or_pos k with rfl | hkp
          · as_aux_lemma =>
            have hg0 : decide ((0 : Int) < ((0 : Nat) : Int)) = false := by simp
            try go_wp2_with fail
            go_quiet (fail)
            generalize hw7 : w6.drewN nq = w7
            have k7 : Keeps NoBlk w6 w7 := by subst hw7; exact (Keeps.refl _ _).drewN nq
            have hT7 := hT6.keep k7
            have z2 : w7.cell? ⟨C, 2, none⟩ = some (.int .i64 n) := by subst hw7; exact y2
            have c9 := hT7.row.bool (i := n) (by rw [hO.len]; exact hnl)
            have f9 := hT7.row.frozen n
            have hT8 := hT7.store (i := n) (by rw [hO.len]; exact hnl) true
            have hrow8 : RowV (w7.setCell ⟨g, n, none⟩ (.bool true)) 53 3 encTm (.slice (some ⟨gl, 0, none⟩) R.length lc) (R.map Thing.v) := by
              refine RowV.at_block (w := wr) hrow (fun b hb => ?_)
              cases hb
              rw [Below.heap_setCell _ _ _ _ hggl, k7.block _ (Nat.lt_of_lt_of_le hrw.lt (Nat.le_trans k5.size k6.size)) id, k6.block _ (Nat.lt_of_lt_of_le hrw.lt k5.size) id, k5.block _ hrw.lt id]
            clear hw7
            go_wp2_with fail
            go_roundw
            case rel => exact ⟨0 + 1, _, left - 1, by go_num, by go_num, by omega, hT8, hO6, hrow8, (by have := hlf.out; show left - 1 + ((0 + 1 : Nat) : Int) = L.length; omega)⟩
            case measure => simp [intOf]; omega
          · as_aux_lemma =>
            obtain ⟨m, hm⟩ : ∃ m, k = m + 1 := ⟨k - 1, by omega⟩
            obtain ⟨y, hy⟩ : ∃ y, R[m]? = some y := ⟨_, List.getElem?_eq_getElem (by omega)⟩
            obtain ⟨hof', _, _⟩ := hI.kth (now := now) (k := k) hdue hO (x := x) hx
            have hyL : y ∈ L := hdue.perm.mem_iff.2 (List.mem_append_left _ (List.mem_of_getElem? hy))
            have hofy := hI.of y hyL
            obtain ⟨n', hn'⟩ : ∃ n : Nat, y.num = n := Int.eq_ofNat_of_zero_le hofy.1
            have hye : y = th21 ds n' := by have := hofy.2.2; rw [hn'] at this; simpa using this
            have hle2 : y.le x := hdue.sorted hy (by rw [← hm]; exact hx)
            rw [hye, hxe] at hle2
            obtain ⟨due', hd'⟩ : ∃ d, ds.getD n' 0 = d := ⟨_, rfl⟩
            have hle3 : due' < due ∨ (due' = due ∧ (n' : Int) ≤ n) := by
              rw [← hd, ← hd']; exact hle2
            have hkm' : m < (R.map Thing.v).length := by simp; omega
            have hyk : (R.map Thing.v)[m] = (th21 ds n').v := by
              have : (R.map Thing.v)[m]? = some y.v := by rw [List.getElem?_map, hy]; rfl
              rw [List.getElem?_eq_getElem hkm'] at this
              rw [← hye]; exact Option.some.inj this
            have v0 := hrw6.cell encTm_len hkm' (j := 0) (by omega)
            have v2 := hrw6.cell encTm_len hkm' (j := 2) (by omega)
            rw [hyk] at v0 v2
            have v0' : w6.cell? ⟨gl, m * 3, none⟩ = some (.int .i64 due') := by rw [← hd']; exact v0
            have v2' : w6.cell? ⟨gl, m * 3 + 2, none⟩ = some (.int .i64 n') := v2
            have hkw : IntKind.i64.wrap ((k : Int) - 1) = (m : Int) := by rw [w64 (by omega)]; omega
            have hg1 : decide ((0 : Int) < (k : Int)) = true := by simp; omega
            have hmw : IntKind.i64.wrap (m : Int) = (m : Int) := w64 (by omega)
            have hm0 : (0 : Int) ≤ m := by omega
            have hm1 : (m : Int) < R.length := by omega
            clear v0 v2 hle2 hofy hof' hm hye hy hyL hkm' hyk
            rcases hle3 with hlt3 | ⟨rfl, hle4⟩
            · as_aux_lemma =>
              have hx1 : ¬ due < due' := by omega
              have hx2 : ¬ due' = due := by omega
              try go_wp2_with fail
              go_quiet (fail)
              generalize hw7 : w6.drewN nq = w7
              have k7 : Keeps NoBlk w6 w7 := by subst hw7; exact (Keeps.refl _ _).drewN nq
              have hT7 := hT6.keep k7
              have z2 : w7.cell? ⟨C, 2, none⟩ = some (.int .i64 n) := by subst hw7; exact y2
              have c9 := hT7.row.bool (i := n) (by rw [hO.len]; exact hnl)
              have f9 := hT7.row.frozen n
              have hT8 := hT7.store (i := n) (by rw [hO.len]; exact hnl) true
              have hrow8 : RowV (w7.setCell ⟨g, n, none⟩ (.bool true)) 53 3 encTm (.slice (some ⟨gl, 0, none⟩) R.length lc) (R.map Thing.v) := by
                refine RowV.at_block (w := wr) hrow (fun b hb => ?_)
                cases hb
                rw [Below.heap_setCell _ _ _ _ hggl, k7.block _ (Nat.lt_of_lt_of_le hrw.lt (Nat.le_trans k5.size k6.size)) id, k6.block _ (Nat.lt_of_lt_of_le hrw.lt k5.size) id, k5.block _ hrw.lt id]
              clear hw7
              go_wp2_with fail
              go_roundw
              case rel => exact ⟨k + 1, _, left - 1, by go_num, by go_num, by omega, hT8, hO6, hrow8, (by have := hlf.out; show left - 1 + ((k + 1 : Nat) : Int) = L.length; omega)⟩
              case measure => simp [intOf]; omega
            · as_aux_lemma =>
              have hx1 : ¬ (n : Int) < n' := by omega
              try go_wp2_with fail
              go_quiet (fail)
              generalize hw7 : w6.drewN nq = w7
              have k7 : Keeps NoBlk w6 w7 := by subst hw7; exact (Keeps.refl _ _).drewN nq
              have hT7 := hT6.keep k7
              have z2 : w7.cell? ⟨C, 2, none⟩ = some (.int .i64 n) := by subst hw7; exact y2
              have c9 := hT7.row.bool (i := n) (by rw [hO.len]; exact hnl)
              have f9 := hT7.row.frozen n
              have hT8 := hT7.store (i := n) (by rw [hO.len]; exact hnl) true
              have hrow8 : RowV (w7.setCell ⟨g, n, none⟩ (.bool true)) 53 3 encTm (.slice (some ⟨gl, 0, none⟩) R.length lc) (R.map Thing.v) := by
                refine RowV.at_block (w := wr) hrow (fun b hb => ?_)
                cases hb
                rw [Below.heap_setCell _ _ _ _ hggl, k7.block _ (Nat.lt_of_lt_of_le hrw.lt (Nat.le_trans k5.size k6.size)) id, k6.block _ (Nat.lt_of_lt_of_le hrw.lt k5.size) id, k5.block _ hrw.lt id]
              clear hw7
              go_wp2_with fail
              go_roundw
              case rel => exact ⟨k + 1, _, left - 1, by go_num, by go_num, by omega, hT8, hO6, hrow8, (by have := hlf.out; show left - 1 + ((k + 1 : Nat) : Int) = L.length; omega)⟩
              case measure => simp [intOf]; omega
        · as_aux_lemma =>
          have hkR : k = R.length := by omega
          subst hkR
          have hI2 : On1 ds ts (i + 1) L' tb' := On1.next (ts := ts) hI (by rw [hnow]; exact hdue) (by rw [hnow]; exact hend) hO
          have hleft : left = L'.length := by have := hlf.out; omega
          subst hleft
          clear hlf hlf0 hlf1
          have hL'l : L'.length ≤ 200 := by omega
          go_wp2_with fail
          refine (next_o wr p S L' _ hT.hh).mono ?_
          rintro e w5 ⟨⟨d, b, hn, rfl⟩, k5⟩
          have hT5 := hT.keep k5
          have hln := lenTable_o w5 p S L' _ hT5.hh
          have c2 := (hT5.kp.cell (p := ⟨B2, o2 + i, none⟩) hB2 id).trans (hc2 i (by omega))
          rw [hnow] at c2
          rcases hn with ⟨hz, rfl, rfl⟩ | ⟨x, hf, rfl, rfl⟩
          · have hz0 : (L'.length : Int) = 0 := by rw [hz]; rfl
            go_wp2_with (go_at_call 36; refine hln.mono ?_; rintro e w6 ⟨rfl, rfl⟩)
            go_roundw
            case rel => exact ⟨i + 1, L', tb', by simp [hz], by go_num, by omega, hT5, hI2, hL'l⟩
            case measure => simp [intOf]; omega
          · have hz0 : (0 : Int) < L'.length := by have := List.length_pos_of_mem hf.1; omega
            have hnd : ¬ x.key ≤ now := by have := hend x hf.1; omega
            obtain ⟨d, hxd⟩ : ∃ d, x.key = d := ⟨_, rfl⟩
            rw [hxd] at hnd ⊢
            have hlenH : Hid (L.length = R.length + L'.length) := hlen
            clear hxd hf hend hrow hdue hO hlen
            go_wp2_with (go_at_call 36; refine hln.mono ?_; rintro e w6 ⟨rfl, rfl⟩)
            go_roundw
            case rel => exact ⟨i + 1, L', tb', by go_num, by go_num, by omega, hT5, hI2, hL'l⟩
            case measure => simp [intOf]; omega
    · as_aux_lemma =>
      have hiT : i = ts.length := by omega
      subst hiT
      have hlate := hI.late
      have htbl := hI.len
      clear hI hLl
      go_wp2_with fail
      go_loopw [15] (fun jv wr => ∃ (j : Nat), jv = .int .i64 j ∧ j ≤ ds.length ∧ OnW w wr p S L ds.length g ds.length tb) (fun jv _ => ds.length - (intOf jv).toNat)
      case atStart => exact ⟨0, rfl, Nat.zero_le _, hT⟩
      case round => as_aux_lemma =>
        obtain ⟨j, rfl, hj, hT⟩ := hrel
        have j0 : (0 : Int) ≤ j := by omega
        by_cases hjl : (j : Int) < ds.length
        · obtain ⟨B1, o1, cap1', ev1, hB1, hc1⟩ := hv1.at (k := j) (by omega)
          cases ev1
          obtain ⟨due, hd⟩ : ∃ d, ds.getD j 0 = d := ⟨_, rfl⟩
          have hlj := hlate j (by omega)
          go_wp2_with fail
          go_loopw [16, 17] (fun bv kv wr => ∃ (k : Nat) (b : Bool), bv = .bool b ∧ kv = .int .i64 k ∧ k ≤ ts.length ∧ OnW w wr p S L ds.length g ds.length tb ∧ Hid (b = true ↔ late21 ds ts k j)) (fun _ kv _ => ts.length - (intOf kv).toNat)
          case atStart => exact ⟨0, false, rfl, rfl, Nat.zero_le _, hT, (⟨fun h => (by cases h), fun ⟨k, hk, _⟩ => absurd hk (Nat.not_lt_zero _)⟩ : false = true ↔ late21 ds ts 0 j)⟩
          case round => as_aux_lemma =>
            obtain ⟨k, b, rfl, rfl, hk, hT, hb⟩ := hrel
            have kk0 : (0 : Int) ≤ k := by omega
            by_cases hkl : (k : Int) < ts.length
            · obtain ⟨B2, o2, cap2', ev2, hB2, hc2⟩ := hv2.at (k := k) (by omega)
              cases ev2
              obtain ⟨t, ht⟩ : ∃ d, ts.getD k 0 = d := ⟨_, rfl⟩
              have c1 := (hT.kp.cell (p := ⟨B1, o1 + j, none⟩) hB1 id).trans (hc1 j (by omega))
              have c2 := (hT.kp.cell (p := ⟨B2, o2 + k, none⟩) hB2 id).trans (hc2 k (by omega))
              rw [hd] at c1
              rw [ht] at c2
              have hstep : late21 ds ts (k + 1) j ↔ late21 ds ts k j ∨ due ≤ t := by
                rw [← hd, ← ht]
                constructor
                · rintro ⟨q, hq, h⟩
                  by_cases e : q = k
                  · subst e; exact .inr h
                  · exact .inl ⟨q, by omega, h⟩
                · rintro (⟨q, hq, h⟩ | h)
                  · exact ⟨q, by omega, h⟩
                  · exact ⟨k, by omega, h⟩
              have hstep' : Hid (late21 ds ts (k + 1) j ↔ late21 ds ts k j ∨ due ≤ t) := hstep
              clear hstep hlj ht hd hlate
              cases b with
              | true =>
                go_wp2_with fail
                go_quiet (fail)
                go_wp2_with fail
                go_roundw
                case rel => exact ⟨k + 1, true, rfl, by go_num, by omega, hT.keep ((Keeps.refl _ _).drewN _), (⟨fun _ => hstep'.out.2 (.inl (hb.out.1 (by simp))), fun _ => rfl⟩ : true = true ↔ late21 ds ts (k + 1) j)⟩
                case measure => simp [intOf]; omega
              | false =>
                by_cases hle : due ≤ t
                · go_wp2_with fail
                  go_quiet (fail)
                  go_wp2_with fail
                  go_roundw
                  case rel => exact ⟨k + 1, true, rfl, by go_num, by omega, hT.keep ((Keeps.refl _ _).drewN _), (⟨fun _ => hstep'.out.2 (.inr hle), fun _ => rfl⟩ : true = true ↔ late21 ds ts (k + 1) j)⟩
                  case measure => simp [intOf]; omega
                · go_wp2_with fail
                  go_quiet (fail)
                  go_wp2_with fail
                  go_roundw
                  case rel => exact ⟨k + 1, _, rfl, by go_num, by omega, hT.keep ((Keeps.refl _ _).drewN _), (⟨fun h => absurd (of_decide_eq_true h) (by omega), fun h => (hstep'.out.1 h).elim (fun q => absurd (hb.out.2 q) (by simp)) (fun h => absurd h (by omega))⟩ : decide (due ≤ t) = true ↔ late21 ds ts (k + 1) j)⟩
                  case measure => simp [intOf]; omega
            · have hkT : k = ts.length := by omega
              subst hkT
              have hbt : tb.getD j false = b := by
                have := hlj.trans hb.out.symm
                cases b with
                | true => exact this.2 rfl
                | false =>
                  cases hq : tb.getD j false with
                  | false => rfl
                  | true => exact absurd (this.1 hq) (by simp)
              have c8 := hT.row.bool (i := j) (by rw [htbl]; omega)
              rw [hbt] at c8
              clear hlj hlate hb hbt
              go_wp2_with fail
              go_roundw
              case rel => exact ⟨j + 1, by go_num, by omega, hT⟩
              case measure => simp [intOf]; omega
        · go_wp2_with fail
          go_ret
          exact ⟨rfl, hT.kp.below (Nat.le_refl _) (fun _ x => x.elim)⟩

end Go.Proofs.Ytofdcmbjcpfabaa
