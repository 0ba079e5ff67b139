/- HeapScript: the walk. -/
import Derived.Test.YtofdcmbjcpfabaaLaw03f
namespace Go.Proofs.Ytofdcmbjcpfabaa
open Go.RowKit Go.Maps Go.MapKept Go.ChangeMaps
attribute [local go_sem ↓] Go.wp_at_zero Go.wp_at_succ

theorem Steps03.keep {w w' : World} {v : Value} {l : List St03} (h : Steps03 w v l) {S : Nat → Prop} (hk : Keeps S w w') (hS : ∀ k, k < w.heap.size → ¬ S k) : Steps03 w' v l := by
  obtain ⟨a, cap, rfl, h⟩ := h
  refine ⟨a, cap, rfl, fun hne => ?_⟩
  obtain ⟨b, off, rfl, hb, hc⟩ := h hne
  refine ⟨b, off, rfl, Nat.lt_of_lt_of_le hb hk.size, fun j hj => ?_⟩
  obtain ⟨c0, c1, c2, c3⟩ := hc j hj
  exact ⟨(hk.cell (p := ⟨b, off + j * 3, none⟩) hb (hS b hb)).trans c0, (hk.cell (p := ⟨b, off + j * 3 + 1, none⟩) hb (hS b hb)).trans c1, (hk.cell (p := ⟨b, off + j * 3 + 2, none⟩) hb (hS b hb)).trans c2, c3⟩

theorem ScW.up {w wr : World} {p rp i : Nat} {S T : Nat → Prop} {R : List (Thing Int)} {next : Int} (h : ScW w wr p S rp T R next i) : ScW w wr p S rp T R next (i + 1) :=
  ⟨h.kp, h.hh, h.rr, h.dis, h.upS, h.upT, h.rise, Nat.le_succ_of_le h.len, by have := h.nx; omega⟩

theorem ScW.copied {w wr w2 w3 : World} {p p2 rp i : Nat} {S S2 S3 T : Nat → Prop} {R : List (Thing Int)} {next : Int} (h : ScW w wr p S rp T R next i) (k2 : Keeps NoBlk wr w2) (f2 : ∀ k, S2 k → wr.heap.size ≤ k) (h2 : IsHeapI w2 p2 S2 R next) (m3 : Moves S w2 S3 w3) :
    ScW w w3 p2 S2 rp T R next (i + 1) := by
  have k1 : Keeps NoBlk w w2 := h.kp.trans k2 (fun _ _ x => x)
  have sl := h.hh.lt
  have tl := h.rr.lt
  refine ⟨k1.trans m3.keeps (fun k hk hs => by have := h.upS k hs; omega), h2.keep m3.keeps (fun k hk hs => by have := f2 k hk; have := sl k hs; omega), (h.rr.keep k2 (fun _ _ x => x)).keep m3.keeps (fun k hk hs => h.dis k hs hk), fun k hk ht => ?_, fun k hk => Nat.le_trans h.kp.size (f2 k hk), h.upT, h.rise, Nat.le_succ_of_le h.len, by have := h.nx; omega⟩
  have := f2 k hk; have := tl k ht; omega

set_option maxRecDepth 100000 in
set_option maxHeartbeats 40000000 in
theorem script03_c (w : World) (v : Value) (l : List St03) (hv : Steps03 w v l) :
    Calls Try.prog 10 #[v] w fun e w' => e = .returned (.bool true) ∧ Below w.heap.size w w' := by
  obtain ⟨a, cap, e, _⟩ := id hv
  subst e
  go_enter Try.func10, Try.ntmps10
  go_wp2_with fail
  refine (awake03_c w).mono ?_
  rintro e w0 ⟨rfl, k0⟩
  by_cases b1 : (120 : Int) < l.length
  · go_wp2_with fail
    go_ret
    exact ⟨by simp, k0.below (Nat.le_refl _) (fun _ x => x.elim)⟩
  go_wp2_with fail
  refine (newI_o w0).mono ?_
  rintro e w1 ⟨p, S, rfl, h1, m1⟩
  obtain ⟨B, hB⟩ : ∃ B, w1.heap.size = B := ⟨_, rfl⟩
  go_wp2_with fail
  have k1 : Keeps NoBlk w w1 := k0.trans m1.keeps (fun _ _ x => x)
  have hS0 : ScW w (w1.alloc (.cells #[.slice none 0 0, .int .i64 0] 89)) p S B (RfFoot B (.slice none 0 0)) [] 0 0 := by
    have ka : Keeps NoBlk w1 (w1.alloc (.cells #[.slice none 0 0, .int .i64 0] 89)) := (Keeps.refl _ _).alloc _
    refine ⟨k1.trans ka (fun _ _ x => x), h1.keep ka (fun _ _ x => x), ⟨_, ⟨by rw [← hB]; exact heap_alloc_new _ _, RowV.nil _ _ _ _⟩, rfl⟩, fun k hk ht => ?_, fun k hk => Nat.le_trans k0.size ((m1.foot k hk).resolve_left id), fun k hk => ?_, List.Pairwise.nil, Nat.le_refl _, Int.le_refl _⟩
    · have := h1.lt k hk
      rcases ht with rfl | ht
      · omega
      · cases ht
    · rcases hk with rfl | hk
      · have := k1.size; omega
      · cases hk
  go_loopw [3, 5] (fun pv iv wr => ∃ (i p : Nat) (S T : Nat → Prop) (R : List (Thing Int)) (next : Int), pv = .pointer (some ⟨p, 0, none⟩) ∧ iv = .int .i64 i ∧ i ≤ l.length ∧ ScW w wr p S B T R next i) (fun _ iv _ => l.length - (intOf iv).toNat)
  case atStart => exact ⟨0, p, S, _, [], 0, rfl, rfl, Nat.zero_le _, hS0⟩
  case round =>
    clear hS0 h1 m1 k0 k1
    obtain ⟨i, p, S, T, R, next, rfl, rfl, hil, hW⟩ := hrel
    have iz : (0 : Int) ≤ i := by omega
    by_cases hlt : (i : Int) < l.length
    · have hil : i < l.length := by omega
      obtain ⟨b, off, cap', ev, hbl, c0, c1, c2, g0, g1, g2⟩ := hv.at hil
      cases ev
      obtain ⟨x, hx⟩ : ∃ x, l[i] = x := ⟨_, rfl⟩
      rw [hx] at c0 c1 c2 g0 g1 g2
      obtain ⟨act, key, n⟩ := x
      simp only at c0 c1 c2 g0 g1 g2
      have d0 := (hW.kp.cell (p := ⟨b, off + i * 3, none⟩) hbl id).trans c0
      have d1 := (hW.kp.cell (p := ⟨b, off + i * 3 + 1, none⟩) hbl id).trans c1
      have d2 := (hW.kp.cell (p := ⟨b, off + i * 3 + 2, none⟩) hbl id).trans c2
      clear c0 c1 c2 hx
      obtain ⟨C, hC⟩ : ∃ C, wr.heap.size = C := ⟨_, rfl⟩
      have hWa : ScW w (wr.alloc (.cells #[.int .u8 act, .int .i64 key, .int .i64 n] 91)) p S B T R next i := hW.keep ((Keeps.refl _ _).alloc _)
      have hlen := hW.len
      have hnx := hW.nx
      have hbig : R.length ≤ 1000000 := by omega
      by_cases a0 : act = 0
      · as_aux_lemma =>
        subst a0
        have hpush := pushI_o _ p S R next hWa.hh key n (by omega) (by omega)
        go_wp2_with fail
        refine hpush.mono ?_
        rintro e w2 ⟨rfl, S2, h2, m2⟩
        have hr2 := push_r (hWa.refAt m2) (by omega) hWa.hh.rng.2 (by omega) key n
        have hb2 : w2.heap[C]? = some (.cells #[.int .u8 0, .int .i64 key, .int .i64 n] 91 (0, 0)) := by
          rw [m2.keeps.block C (by simp [← hC]) (fun hz => by have := hW.hh.lt C hz; omega), ← hC]
          exact heap_alloc_new _ _
        have y1 : w2.cell? ⟨C, 1, none⟩ = some (.int .i64 key) := by rw [cell_of_row _ _ _ _ _ _ hb2]; rfl
        have y2 : w2.cell? ⟨C, 2, none⟩ = some (.int .i64 n) := by rw [cell_of_row _ _ _ _ _ _ hb2]; rfl
        clear hb2
        clear hpush
        go_wp2_with fail
        refine hr2.mono ?_
        rintro e w3 ⟨rfl, T3, h3, m3⟩
        have hX := hWa.step m2 h2 m3 h3 (List.perm_append_singleton _ _).symm (rise_snoc hWa.rise (fun x hx => (hWa.hh.rng.1 x hx).2) key n) (by simp; omega) (by omega)
        go_wp2_with fail
        refine (peekI_o _ _ _ _ _ (hX.keep (Keeps.refl _ _)).hh).mono ?_
        rintro e w8 ⟨hp8, k8⟩
        have hX8 := (hX.keep (Keeps.refl _ _)).keep k8.keeps
        have hpk := peek_r hX8.rr (by have := hX8.len; omega)
        clear hX
        rcases hp8 with ⟨z0, rfl⟩ | ⟨x, hf, rfl⟩
        · go_wp2_with fail
          refine hpk.mono ?_
          rintro e w9 ⟨hp9, k9⟩
          have hX9 := hX8.keep k9
          clear hpk hX8
          rcases hp9 with ⟨_, rfl⟩ | ⟨j, hj, _⟩
          ·
            obtain ⟨lv9, hr9, _⟩ := id hX9.rr
            obtain ⟨s0, _⟩ := hr9.fields
            obtain ⟨ra, rc, rfl⟩ := hr9.len
            have s9 : ∀ ob, (w9.alloc ob).cell? ⟨B, 0, none⟩ = some (.slice ra (R ++ [(⟨key, next, n⟩ : Thing Int)] : List (Thing Int)).length rc) := fun ob => (World.cell?_of_block (w := w9) (w' := w9.alloc ob) (a := ⟨B, 0, none⟩) (heap_alloc_old _ _ hr9.lt.1)).trans s0
            have hl9 := fun W (k : Keeps NoBlk w9 W) => lenI_o W _ S2 _ _ (hX9.hh.keep k (fun _ _ x => x))
            go_wp2_with fail
            refine wp_region_quiet_lit (by kernel_rfl) (by kernel_rfl) ?_
            repeat (go_big_quiet_step (fail))
            go_big_quiet_want
            go_big_quiet_op
            refine ⟨.int .i64 (((R ++ [(⟨key, next, n⟩ : Thing Int)] : List (Thing Int)).length : Nat) : Int), fun _ => ?_, ?_⟩
            · refine Calls.quiet_of_same ?_
              exact (hl9 _ (((Keeps.refl _ _).alloc _).drewN _)).mono fun e w' h => ⟨h.1, h.2.symm⟩
            go_big_quiet_on
            repeat (go_big_quiet_step (fail))
            refine wpQuiet_nil ?_
            intro _ hw'
            obtain ⟨nq, hw'q⟩ := hw'
            subst hw'q
            go_wp2_with fail
            go_roundw
            case rel => exact ⟨i + 1, _, S2, T3, _, _, rfl, by go_num, by omega, hX9.keep (((Keeps.refl _ _).alloc _).drewN nq)⟩
            case measure => simp [intOf]; omega
          · exact absurd (show j < 0 from by first | exact hj | (rw [z0] at hj; exact hj)) (Nat.not_lt_zero _)
        · go_wp2_with fail
          refine hpk.mono ?_
          rintro e w9 ⟨hp9, k9⟩
          have hX9 := hX8.keep k9
          clear hpk hX8
          rcases hp9 with ⟨z0, _⟩ | ⟨jj, hjj, hF, rfl⟩
          · rw [z0] at hf; cases hf.1
          · have hxe := same_first hX9.rise hjj hF hf
            clear hF hf
            obtain ⟨y, hy⟩ : ∃ y, (R ++ [(⟨key, next, n⟩ : Thing Int)] : List (Thing Int))[jj] = y := ⟨_, rfl⟩
            rw [hy] at hxe ⊢
            subst hxe
            clear hy
            obtain ⟨lv9, hr9, _⟩ := id hX9.rr
            obtain ⟨s0, _⟩ := hr9.fields
            obtain ⟨ra, rc, rfl⟩ := hr9.len
            have s9 : ∀ ob, (w9.alloc ob).cell? ⟨B, 0, none⟩ = some (.slice ra (R ++ [(⟨key, next, n⟩ : Thing Int)] : List (Thing Int)).length rc) := fun ob => (World.cell?_of_block (w := w9) (w' := w9.alloc ob) (a := ⟨B, 0, none⟩) (heap_alloc_old _ _ hr9.lt.1)).trans s0
            have hl9 := fun W (k : Keeps NoBlk w9 W) => lenI_o W _ S2 _ _ (hX9.hh.keep k (fun _ _ x => x))
            go_wp2_with fail
            refine wp_region_quiet_lit (by kernel_rfl) (by kernel_rfl) ?_
            repeat (go_big_quiet_step (fail))
            go_big_quiet_want
            go_big_quiet_op
            refine ⟨.int .i64 (((R ++ [(⟨key, next, n⟩ : Thing Int)] : List (Thing Int)).length : Nat) : Int), fun _ => ?_, ?_⟩
            · refine Calls.quiet_of_same ?_
              exact (hl9 _ (((Keeps.refl _ _).alloc _).drewN _)).mono fun e w' h => ⟨h.1, h.2.symm⟩
            go_big_quiet_on
            repeat (go_big_quiet_step (fail))
            refine wpQuiet_nil ?_
            intro _ hw'
            obtain ⟨nq, hw'q⟩ := hw'
            subst hw'q
            go_wp2_with fail
            go_roundw
            case rel => exact ⟨i + 1, _, S2, T3, _, _, rfl, by go_num, by omega, hX9.keep (((Keeps.refl _ _).alloc _).drewN nq)⟩
            case measure => simp [intOf]; omega
      by_cases a1 : act = 1
      · as_aux_lemma =>
        subst a1
        have hpop := popI_o _ p S R next hWa.hh
        go_wp2_with fail
        refine hpop.mono ?_
        rintro e w2 ⟨hp2, m2⟩
        have hr2 := pop_r (hWa.refAt m2) hbig
        clear hpop
        rcases hp2 with ⟨h0, rfl, h2⟩ | ⟨x, L2, hf, hpm, rfl, h2⟩
        · subst h0
          go_wp2_with fail
          refine hr2.mono ?_
          intro e w3 hp3
          rcases hp3 with ⟨_, rfl, k3⟩ | ⟨j, hj, _⟩
          · have hX := hWa.step m2 h2 ⟨k3.of_none, fun _ q => .inl q⟩ ((hWa.refAt m2).keep k3 (fun _ _ q => q)) (List.Perm.refl _) hWa.rise (by simp) (by omega)
            go_wp2_with fail
            refine (peekI_o _ _ _ _ _ (hX.keep ((Keeps.refl _ _).alloc _)).hh).mono ?_
            rintro e w8 ⟨hp8, k8⟩
            have hX8 := (hX.keep ((Keeps.refl _ _).alloc _)).keep k8.keeps
            have hpk := peek_r hX8.rr (by have := hX8.len; omega)
            clear hX
            rcases hp8 with ⟨z0, rfl⟩ | ⟨x, hf, rfl⟩
            · go_wp2_with fail
              refine hpk.mono ?_
              rintro e w9 ⟨hp9, k9⟩
              have hX9 := hX8.keep k9
              clear hpk hX8
              rcases hp9 with ⟨_, rfl⟩ | ⟨j, hj, _⟩
              ·
                obtain ⟨lv9, hr9, _⟩ := id hX9.rr
                obtain ⟨s0, _⟩ := hr9.fields
                obtain ⟨ra, rc, rfl⟩ := hr9.len
                have s9 : ∀ ob, (w9.alloc ob).cell? ⟨B, 0, none⟩ = some (.slice ra ([] : List (Thing Int)).length rc) := fun ob => (World.cell?_of_block (w := w9) (w' := w9.alloc ob) (a := ⟨B, 0, none⟩) (heap_alloc_old _ _ hr9.lt.1)).trans s0
                have hl9 := fun W (k : Keeps NoBlk w9 W) => lenI_o W _ S _ _ (hX9.hh.keep k (fun _ _ x => x))
                go_wp2_with fail
                refine wp_region_quiet_lit (by kernel_rfl) (by kernel_rfl) ?_
                repeat (go_big_quiet_step (fail))
                go_big_quiet_want
                go_big_quiet_op
                refine ⟨.int .i64 ((([] : List (Thing Int)).length : Nat) : Int), fun _ => ?_, ?_⟩
                · refine Calls.quiet_of_same ?_
                  exact (hl9 _ (((Keeps.refl _ _).alloc _).drewN _)).mono fun e w' h => ⟨h.1, h.2.symm⟩
                go_big_quiet_on
                repeat (go_big_quiet_step (fail))
                refine wpQuiet_nil ?_
                intro _ hw'
                obtain ⟨nq, hw'q⟩ := hw'
                subst hw'q
                go_wp2_with fail
                go_roundw
                case rel => exact ⟨i + 1, _, S, T, _, _, rfl, by go_num, by omega, hX9.keep (((Keeps.refl _ _).alloc _).drewN nq)⟩
                case measure => simp [intOf]; omega
              · exact absurd (show j < 0 from by first | exact hj | (rw [z0] at hj; exact hj)) (Nat.not_lt_zero _)
            · go_wp2_with fail
              refine hpk.mono ?_
              rintro e w9 ⟨hp9, k9⟩
              have hX9 := hX8.keep k9
              clear hpk hX8
              rcases hp9 with ⟨z0, _⟩ | ⟨jj, hjj, hF, rfl⟩
              · rw [z0] at hf; cases hf.1
              · have hxe := same_first hX9.rise hjj hF hf
                clear hF hf
                obtain ⟨y, hy⟩ : ∃ y, ([] : List (Thing Int))[jj] = y := ⟨_, rfl⟩
                rw [hy] at hxe ⊢
                subst hxe
                clear hy
                obtain ⟨lv9, hr9, _⟩ := id hX9.rr
                obtain ⟨s0, _⟩ := hr9.fields
                obtain ⟨ra, rc, rfl⟩ := hr9.len
                have s9 : ∀ ob, (w9.alloc ob).cell? ⟨B, 0, none⟩ = some (.slice ra ([] : List (Thing Int)).length rc) := fun ob => (World.cell?_of_block (w := w9) (w' := w9.alloc ob) (a := ⟨B, 0, none⟩) (heap_alloc_old _ _ hr9.lt.1)).trans s0
                have hl9 := fun W (k : Keeps NoBlk w9 W) => lenI_o W _ S _ _ (hX9.hh.keep k (fun _ _ x => x))
                go_wp2_with fail
                refine wp_region_quiet_lit (by kernel_rfl) (by kernel_rfl) ?_
                repeat (go_big_quiet_step (fail))
                go_big_quiet_want
                go_big_quiet_op
                refine ⟨.int .i64 ((([] : List (Thing Int)).length : Nat) : Int), fun _ => ?_, ?_⟩
                · refine Calls.quiet_of_same ?_
                  exact (hl9 _ (((Keeps.refl _ _).alloc _).drewN _)).mono fun e w' h => ⟨h.1, h.2.symm⟩
                go_big_quiet_on
                repeat (go_big_quiet_step (fail))
                refine wpQuiet_nil ?_
                intro _ hw'
                obtain ⟨nq, hw'q⟩ := hw'
                subst hw'q
                go_wp2_with fail
                go_roundw
                case rel => exact ⟨i + 1, _, S, T, _, _, rfl, by go_num, by omega, hX9.keep (((Keeps.refl _ _).alloc _).drewN nq)⟩
                case measure => simp [intOf]; omega
          · exact absurd hj (Nat.not_lt_zero _)
        · go_wp2_with fail
          refine hr2.mono ?_
          intro e w3 hp3
          rcases hp3 with ⟨h0, _⟩ | ⟨j, hj, hF, rfl, T3, h3, m3⟩
          · exfalso; subst h0; cases hf.1
          · have hxe := same_first hWa.rise hj hF hf
            subst hxe
            have hX := hWa.step m2 h2 m3 h3 (rest_perm hj hpm) (rise_erase hWa.rise j) (by rw [List.length_eraseIdx_of_lt hj]; omega) (by omega)
            obtain ⟨y, hy⟩ : ∃ y, R[j] = y := ⟨_, rfl⟩
            rw [hy]
            clear hy hF hf
            go_wp2_with fail
            refine (peekI_o _ _ _ _ _ (hX.keep ((Keeps.refl _ _).alloc _)).hh).mono ?_
            rintro e w8 ⟨hp8, k8⟩
            have hX8 := (hX.keep ((Keeps.refl _ _).alloc _)).keep k8.keeps
            have hpk := peek_r hX8.rr (by have := hX8.len; omega)
            clear hX
            rcases hp8 with ⟨z0, rfl⟩ | ⟨x, hf, rfl⟩
            · go_wp2_with fail
              refine hpk.mono ?_
              rintro e w9 ⟨hp9, k9⟩
              have hX9 := hX8.keep k9
              clear hpk hX8
              rcases hp9 with ⟨_, rfl⟩ | ⟨j, hj, _⟩
              ·
                obtain ⟨lv9, hr9, _⟩ := id hX9.rr
                obtain ⟨s0, _⟩ := hr9.fields
                obtain ⟨ra, rc, rfl⟩ := hr9.len
                have s9 : ∀ ob, (w9.alloc ob).cell? ⟨B, 0, none⟩ = some (.slice ra (R.eraseIdx j : List (Thing Int)).length rc) := fun ob => (World.cell?_of_block (w := w9) (w' := w9.alloc ob) (a := ⟨B, 0, none⟩) (heap_alloc_old _ _ hr9.lt.1)).trans s0
                have hl9 := fun W (k : Keeps NoBlk w9 W) => lenI_o W _ S _ _ (hX9.hh.keep k (fun _ _ x => x))
                go_wp2_with fail
                refine wp_region_quiet_lit (by kernel_rfl) (by kernel_rfl) ?_
                repeat (go_big_quiet_step (fail))
                go_big_quiet_want
                go_big_quiet_op
                refine ⟨.int .i64 (((R.eraseIdx j : List (Thing Int)).length : Nat) : Int), fun _ => ?_, ?_⟩
                · refine Calls.quiet_of_same ?_
                  exact (hl9 _ (((Keeps.refl _ _).alloc _).drewN _)).mono fun e w' h => ⟨h.1, h.2.symm⟩
                go_big_quiet_on
                repeat (go_big_quiet_step (fail))
                refine wpQuiet_nil ?_
                intro _ hw'
                obtain ⟨nq, hw'q⟩ := hw'
                subst hw'q
                go_wp2_with fail
                go_roundw
                case rel => exact ⟨i + 1, _, S, T3, _, _, rfl, by go_num, by omega, hX9.keep (((Keeps.refl _ _).alloc _).drewN nq)⟩
                case measure => simp [intOf]; omega
              · exact absurd (show j < 0 from by first | exact hj | (rw [z0] at hj; exact hj)) (Nat.not_lt_zero _)
            · go_wp2_with fail
              refine hpk.mono ?_
              rintro e w9 ⟨hp9, k9⟩
              have hX9 := hX8.keep k9
              clear hpk hX8
              rcases hp9 with ⟨z0, _⟩ | ⟨jj, hjj, hF, rfl⟩
              · rw [z0] at hf; cases hf.1
              · have hxe := same_first hX9.rise hjj hF hf
                clear hF hf
                obtain ⟨y, hy⟩ : ∃ y, (R.eraseIdx j : List (Thing Int))[jj] = y := ⟨_, rfl⟩
                rw [hy] at hxe ⊢
                subst hxe
                clear hy
                obtain ⟨lv9, hr9, _⟩ := id hX9.rr
                obtain ⟨s0, _⟩ := hr9.fields
                obtain ⟨ra, rc, rfl⟩ := hr9.len
                have s9 : ∀ ob, (w9.alloc ob).cell? ⟨B, 0, none⟩ = some (.slice ra (R.eraseIdx j : List (Thing Int)).length rc) := fun ob => (World.cell?_of_block (w := w9) (w' := w9.alloc ob) (a := ⟨B, 0, none⟩) (heap_alloc_old _ _ hr9.lt.1)).trans s0
                have hl9 := fun W (k : Keeps NoBlk w9 W) => lenI_o W _ S _ _ (hX9.hh.keep k (fun _ _ x => x))
                go_wp2_with fail
                refine wp_region_quiet_lit (by kernel_rfl) (by kernel_rfl) ?_
                repeat (go_big_quiet_step (fail))
                go_big_quiet_want
                go_big_quiet_op
                refine ⟨.int .i64 (((R.eraseIdx j : List (Thing Int)).length : Nat) : Int), fun _ => ?_, ?_⟩
                · refine Calls.quiet_of_same ?_
                  exact (hl9 _ (((Keeps.refl _ _).alloc _).drewN _)).mono fun e w' h => ⟨h.1, h.2.symm⟩
                go_big_quiet_on
                repeat (go_big_quiet_step (fail))
                refine wpQuiet_nil ?_
                intro _ hw'
                obtain ⟨nq, hw'q⟩ := hw'
                subst hw'q
                go_wp2_with fail
                go_roundw
                case rel => exact ⟨i + 1, _, S, T3, _, _, rfl, by go_num, by omega, hX9.keep (((Keeps.refl _ _).alloc _).drewN nq)⟩
                case measure => simp [intOf]; omega
      by_cases a2 : act = 2
      · as_aux_lemma =>
        subst a2
        have hrem := removeI_o _ p S R next hWa.hh n g2
        go_wp2_with fail
        refine hrem.mono ?_
        rintro e w2 ⟨hp2, m2⟩
        have hr2 := remove_r (hWa.refAt m2) hbig n
        have hb2 : w2.heap[C]? = some (.cells #[.int .u8 2, .int .i64 key, .int .i64 n] 91 (0, 0)) := by
          rw [m2.keeps.block C (by simp [← hC]) (fun hz => by have := hW.hh.lt C hz; omega), ← hC]
          exact heap_alloc_new _ _
        have y1 : w2.cell? ⟨C, 1, none⟩ = some (.int .i64 key) := by rw [cell_of_row _ _ _ _ _ _ hb2]; rfl
        have y2 : w2.cell? ⟨C, 2, none⟩ = some (.int .i64 n) := by rw [cell_of_row _ _ _ _ _ _ hb2]; rfl
        clear hb2
        clear hrem
        rcases hp2 with ⟨h0, rfl, h2⟩ | ⟨x, L2, hf, hpm, rfl, h2⟩
        · go_wp2_with fail
          refine hr2.mono ?_
          intro e w3 hp3
          rcases hp3 with ⟨_, rfl, rfl⟩ | ⟨j, hj, hjn, _⟩
          · have hX := hWa.step m2 h2 (Moves.refl _ _) (hWa.refAt m2) (List.Perm.refl _) hWa.rise (by omega) (by omega)
            go_wp2_with fail
            refine (peekI_o _ _ _ _ _ (hX.keep (Keeps.refl _ _)).hh).mono ?_
            rintro e w8 ⟨hp8, k8⟩
            have hX8 := (hX.keep (Keeps.refl _ _)).keep k8.keeps
            have hpk := peek_r hX8.rr (by have := hX8.len; omega)
            clear hX
            rcases hp8 with ⟨z0, rfl⟩ | ⟨x, hf, rfl⟩
            · go_wp2_with fail
              refine hpk.mono ?_
              rintro e w9 ⟨hp9, k9⟩
              have hX9 := hX8.keep k9
              clear hpk hX8
              rcases hp9 with ⟨_, rfl⟩ | ⟨j, hj, _⟩
              ·
                obtain ⟨lv9, hr9, _⟩ := id hX9.rr
                obtain ⟨s0, _⟩ := hr9.fields
                obtain ⟨ra, rc, rfl⟩ := hr9.len
                have s9 : ∀ ob, (w9.alloc ob).cell? ⟨B, 0, none⟩ = some (.slice ra (R : List (Thing Int)).length rc) := fun ob => (World.cell?_of_block (w := w9) (w' := w9.alloc ob) (a := ⟨B, 0, none⟩) (heap_alloc_old _ _ hr9.lt.1)).trans s0
                have hl9 := fun W (k : Keeps NoBlk w9 W) => lenI_o W _ S _ _ (hX9.hh.keep k (fun _ _ x => x))
                go_wp2_with fail
                refine wp_region_quiet_lit (by kernel_rfl) (by kernel_rfl) ?_
                repeat (go_big_quiet_step (fail))
                go_big_quiet_want
                go_big_quiet_op
                refine ⟨.int .i64 (((R : List (Thing Int)).length : Nat) : Int), fun _ => ?_, ?_⟩
                · refine Calls.quiet_of_same ?_
                  exact (hl9 _ (((Keeps.refl _ _).alloc _).drewN _)).mono fun e w' h => ⟨h.1, h.2.symm⟩
                go_big_quiet_on
                repeat (go_big_quiet_step (fail))
                refine wpQuiet_nil ?_
                intro _ hw'
                obtain ⟨nq, hw'q⟩ := hw'
                subst hw'q
                go_wp2_with fail
                go_roundw
                case rel => exact ⟨i + 1, _, S, T, _, _, rfl, by go_num, by omega, hX9.keep (((Keeps.refl _ _).alloc _).drewN nq)⟩
                case measure => simp [intOf]; omega
              · exact absurd (show j < 0 from by first | exact hj | (rw [z0] at hj; exact hj)) (Nat.not_lt_zero _)
            · go_wp2_with fail
              refine hpk.mono ?_
              rintro e w9 ⟨hp9, k9⟩
              have hX9 := hX8.keep k9
              clear hpk hX8
              rcases hp9 with ⟨z0, _⟩ | ⟨jj, hjj, hF, rfl⟩
              · rw [z0] at hf; cases hf.1
              · have hxe := same_first hX9.rise hjj hF hf
                clear hF hf
                obtain ⟨y, hy⟩ : ∃ y, (R : List (Thing Int))[jj] = y := ⟨_, rfl⟩
                rw [hy] at hxe ⊢
                subst hxe
                clear hy
                obtain ⟨lv9, hr9, _⟩ := id hX9.rr
                obtain ⟨s0, _⟩ := hr9.fields
                obtain ⟨ra, rc, rfl⟩ := hr9.len
                have s9 : ∀ ob, (w9.alloc ob).cell? ⟨B, 0, none⟩ = some (.slice ra (R : List (Thing Int)).length rc) := fun ob => (World.cell?_of_block (w := w9) (w' := w9.alloc ob) (a := ⟨B, 0, none⟩) (heap_alloc_old _ _ hr9.lt.1)).trans s0
                have hl9 := fun W (k : Keeps NoBlk w9 W) => lenI_o W _ S _ _ (hX9.hh.keep k (fun _ _ x => x))
                go_wp2_with fail
                refine wp_region_quiet_lit (by kernel_rfl) (by kernel_rfl) ?_
                repeat (go_big_quiet_step (fail))
                go_big_quiet_want
                go_big_quiet_op
                refine ⟨.int .i64 (((R : List (Thing Int)).length : Nat) : Int), fun _ => ?_, ?_⟩
                · refine Calls.quiet_of_same ?_
                  exact (hl9 _ (((Keeps.refl _ _).alloc _).drewN _)).mono fun e w' h => ⟨h.1, h.2.symm⟩
                go_big_quiet_on
                repeat (go_big_quiet_step (fail))
                refine wpQuiet_nil ?_
                intro _ hw'
                obtain ⟨nq, hw'q⟩ := hw'
                subst hw'q
                go_wp2_with fail
                go_roundw
                case rel => exact ⟨i + 1, _, S, T, _, _, rfl, by go_num, by omega, hX9.keep (((Keeps.refl _ _).alloc _).drewN nq)⟩
                case measure => simp [intOf]; omega
          · exact absurd hjn (h0 _ (List.getElem_mem hj))
        · go_wp2_with fail
          refine hr2.mono ?_
          intro e w3 hp3
          rcases hp3 with ⟨h0, _⟩ | ⟨j, hj, hjn, rfl, T3, h3, m3⟩
          · exact absurd hf (h0 _ (hpm.mem_iff.2 List.mem_cons_self))
          · have hxe := same_num hWa.rise hj (hpm.mem_iff.2 List.mem_cons_self) (hf.trans hjn.symm)
            subst hxe
            have hX := hWa.step m2 h2 m3 h3 (rest_perm hj hpm) (rise_erase hWa.rise j) (by rw [List.length_eraseIdx_of_lt hj]; omega) (by omega)
            obtain ⟨y, hy⟩ : ∃ y, R[j] = y := ⟨_, rfl⟩
            rw [hy]
            clear hy hf hjn
            go_wp2_with fail
            refine (peekI_o _ _ _ _ _ (hX.keep (Keeps.refl _ _)).hh).mono ?_
            rintro e w8 ⟨hp8, k8⟩
            have hX8 := (hX.keep (Keeps.refl _ _)).keep k8.keeps
            have hpk := peek_r hX8.rr (by have := hX8.len; omega)
            clear hX
            rcases hp8 with ⟨z0, rfl⟩ | ⟨x, hf, rfl⟩
            · go_wp2_with fail
              refine hpk.mono ?_
              rintro e w9 ⟨hp9, k9⟩
              have hX9 := hX8.keep k9
              clear hpk hX8
              rcases hp9 with ⟨_, rfl⟩ | ⟨j, hj, _⟩
              ·
                obtain ⟨lv9, hr9, _⟩ := id hX9.rr
                obtain ⟨s0, _⟩ := hr9.fields
                obtain ⟨ra, rc, rfl⟩ := hr9.len
                have s9 : ∀ ob, (w9.alloc ob).cell? ⟨B, 0, none⟩ = some (.slice ra (R.eraseIdx j : List (Thing Int)).length rc) := fun ob => (World.cell?_of_block (w := w9) (w' := w9.alloc ob) (a := ⟨B, 0, none⟩) (heap_alloc_old _ _ hr9.lt.1)).trans s0
                have hl9 := fun W (k : Keeps NoBlk w9 W) => lenI_o W _ S _ _ (hX9.hh.keep k (fun _ _ x => x))
                go_wp2_with fail
                refine wp_region_quiet_lit (by kernel_rfl) (by kernel_rfl) ?_
                repeat (go_big_quiet_step (fail))
                go_big_quiet_want
                go_big_quiet_op
                refine ⟨.int .i64 (((R.eraseIdx j : List (Thing Int)).length : Nat) : Int), fun _ => ?_, ?_⟩
                · refine Calls.quiet_of_same ?_
                  exact (hl9 _ (((Keeps.refl _ _).alloc _).drewN _)).mono fun e w' h => ⟨h.1, h.2.symm⟩
                go_big_quiet_on
                repeat (go_big_quiet_step (fail))
                refine wpQuiet_nil ?_
                intro _ hw'
                obtain ⟨nq, hw'q⟩ := hw'
                subst hw'q
                go_wp2_with fail
                go_roundw
                case rel => exact ⟨i + 1, _, S, T3, _, _, rfl, by go_num, by omega, hX9.keep (((Keeps.refl _ _).alloc _).drewN nq)⟩
                case measure => simp [intOf]; omega
              · exact absurd (show j < 0 from by first | exact hj | (rw [z0] at hj; exact hj)) (Nat.not_lt_zero _)
            · go_wp2_with fail
              refine hpk.mono ?_
              rintro e w9 ⟨hp9, k9⟩
              have hX9 := hX8.keep k9
              clear hpk hX8
              rcases hp9 with ⟨z0, _⟩ | ⟨jj, hjj, hF, rfl⟩
              · rw [z0] at hf; cases hf.1
              · have hxe := same_first hX9.rise hjj hF hf
                clear hF hf
                obtain ⟨y, hy⟩ : ∃ y, (R.eraseIdx j : List (Thing Int))[jj] = y := ⟨_, rfl⟩
                rw [hy] at hxe ⊢
                subst hxe
                clear hy
                obtain ⟨lv9, hr9, _⟩ := id hX9.rr
                obtain ⟨s0, _⟩ := hr9.fields
                obtain ⟨ra, rc, rfl⟩ := hr9.len
                have s9 : ∀ ob, (w9.alloc ob).cell? ⟨B, 0, none⟩ = some (.slice ra (R.eraseIdx j : List (Thing Int)).length rc) := fun ob => (World.cell?_of_block (w := w9) (w' := w9.alloc ob) (a := ⟨B, 0, none⟩) (heap_alloc_old _ _ hr9.lt.1)).trans s0
                have hl9 := fun W (k : Keeps NoBlk w9 W) => lenI_o W _ S _ _ (hX9.hh.keep k (fun _ _ x => x))
                go_wp2_with fail
                refine wp_region_quiet_lit (by kernel_rfl) (by kernel_rfl) ?_
                repeat (go_big_quiet_step (fail))
                go_big_quiet_want
                go_big_quiet_op
                refine ⟨.int .i64 (((R.eraseIdx j : List (Thing Int)).length : Nat) : Int), fun _ => ?_, ?_⟩
                · refine Calls.quiet_of_same ?_
                  exact (hl9 _ (((Keeps.refl _ _).alloc _).drewN _)).mono fun e w' h => ⟨h.1, h.2.symm⟩
                go_big_quiet_on
                repeat (go_big_quiet_step (fail))
                refine wpQuiet_nil ?_
                intro _ hw'
                obtain ⟨nq, hw'q⟩ := hw'
                subst hw'q
                go_wp2_with fail
                go_roundw
                case rel => exact ⟨i + 1, _, S, T3, _, _, rfl, by go_num, by omega, hX9.keep (((Keeps.refl _ _).alloc _).drewN nq)⟩
                case measure => simp [intOf]; omega
      by_cases a3 : act = 3
      · as_aux_lemma =>
        subst a3
        have hchg := changeI_o _ p S R next hWa.hh n key g2
        go_wp2_with fail
        refine hchg.mono ?_
        rintro e w2 ⟨hp2, m2⟩
        have hr2 := change_r (hWa.refAt m2) hbig n key
        have hb2 : w2.heap[C]? = some (.cells #[.int .u8 3, .int .i64 key, .int .i64 n] 91 (0, 0)) := by
          rw [m2.keeps.block C (by simp [← hC]) (fun hz => by have := hW.hh.lt C hz; omega), ← hC]
          exact heap_alloc_new _ _
        have y1 : w2.cell? ⟨C, 1, none⟩ = some (.int .i64 key) := by rw [cell_of_row _ _ _ _ _ _ hb2]; rfl
        have y2 : w2.cell? ⟨C, 2, none⟩ = some (.int .i64 n) := by rw [cell_of_row _ _ _ _ _ _ hb2]; rfl
        clear hb2
        clear hchg
        rcases hp2 with ⟨h0, rfl, h2⟩ | ⟨x, L2, hf, hpm, rfl, h2⟩
        · go_wp2_with fail
          refine hr2.mono ?_
          intro e w3 hp3
          rcases hp3 with ⟨_, rfl, rfl⟩ | ⟨j, hj, hjn, _⟩
          · have hX := hWa.step m2 h2 (Moves.refl _ _) (hWa.refAt m2) (List.Perm.refl _) hWa.rise (by omega) (by omega)
            go_wp2_with fail
            refine (peekI_o _ _ _ _ _ (hX.keep (Keeps.refl _ _)).hh).mono ?_
            rintro e w8 ⟨hp8, k8⟩
            have hX8 := (hX.keep (Keeps.refl _ _)).keep k8.keeps
            have hpk := peek_r hX8.rr (by have := hX8.len; omega)
            clear hX
            rcases hp8 with ⟨z0, rfl⟩ | ⟨x, hf, rfl⟩
            · go_wp2_with fail
              refine hpk.mono ?_
              rintro e w9 ⟨hp9, k9⟩
              have hX9 := hX8.keep k9
              clear hpk hX8
              rcases hp9 with ⟨_, rfl⟩ | ⟨j, hj, _⟩
              ·
                obtain ⟨lv9, hr9, _⟩ := id hX9.rr
                obtain ⟨s0, _⟩ := hr9.fields
                obtain ⟨ra, rc, rfl⟩ := hr9.len
                have s9 : ∀ ob, (w9.alloc ob).cell? ⟨B, 0, none⟩ = some (.slice ra (R : List (Thing Int)).length rc) := fun ob => (World.cell?_of_block (w := w9) (w' := w9.alloc ob) (a := ⟨B, 0, none⟩) (heap_alloc_old _ _ hr9.lt.1)).trans s0
                have hl9 := fun W (k : Keeps NoBlk w9 W) => lenI_o W _ S _ _ (hX9.hh.keep k (fun _ _ x => x))
                go_wp2_with fail
                refine wp_region_quiet_lit (by kernel_rfl) (by kernel_rfl) ?_
                repeat (go_big_quiet_step (fail))
                go_big_quiet_want
                go_big_quiet_op
                refine ⟨.int .i64 (((R : List (Thing Int)).length : Nat) : Int), fun _ => ?_, ?_⟩
                · refine Calls.quiet_of_same ?_
                  exact (hl9 _ (((Keeps.refl _ _).alloc _).drewN _)).mono fun e w' h => ⟨h.1, h.2.symm⟩
                go_big_quiet_on
                repeat (go_big_quiet_step (fail))
                refine wpQuiet_nil ?_
                intro _ hw'
                obtain ⟨nq, hw'q⟩ := hw'
                subst hw'q
                go_wp2_with fail
                go_roundw
                case rel => exact ⟨i + 1, _, S, T, _, _, rfl, by go_num, by omega, hX9.keep (((Keeps.refl _ _).alloc _).drewN nq)⟩
                case measure => simp [intOf]; omega
              · exact absurd (show j < 0 from by first | exact hj | (rw [z0] at hj; exact hj)) (Nat.not_lt_zero _)
            · go_wp2_with fail
              refine hpk.mono ?_
              rintro e w9 ⟨hp9, k9⟩
              have hX9 := hX8.keep k9
              clear hpk hX8
              rcases hp9 with ⟨z0, _⟩ | ⟨jj, hjj, hF, rfl⟩
              · rw [z0] at hf; cases hf.1
              · have hxe := same_first hX9.rise hjj hF hf
                clear hF hf
                obtain ⟨y, hy⟩ : ∃ y, (R : List (Thing Int))[jj] = y := ⟨_, rfl⟩
                rw [hy] at hxe ⊢
                subst hxe
                clear hy
                obtain ⟨lv9, hr9, _⟩ := id hX9.rr
                obtain ⟨s0, _⟩ := hr9.fields
                obtain ⟨ra, rc, rfl⟩ := hr9.len
                have s9 : ∀ ob, (w9.alloc ob).cell? ⟨B, 0, none⟩ = some (.slice ra (R : List (Thing Int)).length rc) := fun ob => (World.cell?_of_block (w := w9) (w' := w9.alloc ob) (a := ⟨B, 0, none⟩) (heap_alloc_old _ _ hr9.lt.1)).trans s0
                have hl9 := fun W (k : Keeps NoBlk w9 W) => lenI_o W _ S _ _ (hX9.hh.keep k (fun _ _ x => x))
                go_wp2_with fail
                refine wp_region_quiet_lit (by kernel_rfl) (by kernel_rfl) ?_
                repeat (go_big_quiet_step (fail))
                go_big_quiet_want
                go_big_quiet_op
                refine ⟨.int .i64 (((R : List (Thing Int)).length : Nat) : Int), fun _ => ?_, ?_⟩
                · refine Calls.quiet_of_same ?_
                  exact (hl9 _ (((Keeps.refl _ _).alloc _).drewN _)).mono fun e w' h => ⟨h.1, h.2.symm⟩
                go_big_quiet_on
                repeat (go_big_quiet_step (fail))
                refine wpQuiet_nil ?_
                intro _ hw'
                obtain ⟨nq, hw'q⟩ := hw'
                subst hw'q
                go_wp2_with fail
                go_roundw
                case rel => exact ⟨i + 1, _, S, T, _, _, rfl, by go_num, by omega, hX9.keep (((Keeps.refl _ _).alloc _).drewN nq)⟩
                case measure => simp [intOf]; omega
          · exact absurd hjn (h0 _ (List.getElem_mem hj))
        · go_wp2_with fail
          refine hr2.mono ?_
          intro e w3 hp3
          rcases hp3 with ⟨h0, _⟩ | ⟨j, hj, hjn, rfl, h3, m3⟩
          · exact absurd hf (h0 _ (hpm.mem_iff.2 List.mem_cons_self))
          · have hxe := same_num hWa.rise hj (hpm.mem_iff.2 List.mem_cons_self) (hf.trans hjn.symm)
            subst hxe
            have hX := hWa.step m2 h2 m3 h3 (set_perm hj hpm _) (rise_set hWa.rise hj key) (by rw [List.length_set]; omega) (by omega)
            clear hf hjn
            go_wp2_with fail
            refine (peekI_o _ _ _ _ _ (hX.keep (Keeps.refl _ _)).hh).mono ?_
            rintro e w8 ⟨hp8, k8⟩
            have hX8 := (hX.keep (Keeps.refl _ _)).keep k8.keeps
            have hpk := peek_r hX8.rr (by have := hX8.len; omega)
            clear hX
            rcases hp8 with ⟨z0, rfl⟩ | ⟨x, hf, rfl⟩
            · go_wp2_with fail
              refine hpk.mono ?_
              rintro e w9 ⟨hp9, k9⟩
              have hX9 := hX8.keep k9
              clear hpk hX8
              rcases hp9 with ⟨_, rfl⟩ | ⟨j, hj, _⟩
              ·
                obtain ⟨lv9, hr9, _⟩ := id hX9.rr
                obtain ⟨s0, _⟩ := hr9.fields
                obtain ⟨ra, rc, rfl⟩ := hr9.len
                have s9 : ∀ ob, (w9.alloc ob).cell? ⟨B, 0, none⟩ = some (.slice ra (R.set j { R[j] with key := key } : List (Thing Int)).length rc) := fun ob => (World.cell?_of_block (w := w9) (w' := w9.alloc ob) (a := ⟨B, 0, none⟩) (heap_alloc_old _ _ hr9.lt.1)).trans s0
                have hl9 := fun W (k : Keeps NoBlk w9 W) => lenI_o W _ S _ _ (hX9.hh.keep k (fun _ _ x => x))
                go_wp2_with fail
                refine wp_region_quiet_lit (by kernel_rfl) (by kernel_rfl) ?_
                repeat (go_big_quiet_step (fail))
                go_big_quiet_want
                go_big_quiet_op
                refine ⟨.int .i64 (((R.set j { R[j] with key := key } : List (Thing Int)).length : Nat) : Int), fun _ => ?_, ?_⟩
                · refine Calls.quiet_of_same ?_
                  exact (hl9 _ (((Keeps.refl _ _).alloc _).drewN _)).mono fun e w' h => ⟨h.1, h.2.symm⟩
                go_big_quiet_on
                repeat (go_big_quiet_step (fail))
                refine wpQuiet_nil ?_
                intro _ hw'
                obtain ⟨nq, hw'q⟩ := hw'
                subst hw'q
                go_wp2_with fail
                go_roundw
                case rel => exact ⟨i + 1, _, S, T, _, _, rfl, by go_num, by omega, hX9.keep (((Keeps.refl _ _).alloc _).drewN nq)⟩
                case measure => simp [intOf]; omega
              · exact absurd (show j < 0 from by first | exact hj | (rw [z0] at hj; exact hj)) (Nat.not_lt_zero _)
            · go_wp2_with fail
              refine hpk.mono ?_
              rintro e w9 ⟨hp9, k9⟩
              have hX9 := hX8.keep k9
              clear hpk hX8
              rcases hp9 with ⟨z0, _⟩ | ⟨jj, hjj, hF, rfl⟩
              · rw [z0] at hf; cases hf.1
              · have hxe := same_first hX9.rise hjj hF hf
                clear hF hf
                obtain ⟨y, hy⟩ : ∃ y, (R.set j { R[j] with key := key } : List (Thing Int))[jj] = y := ⟨_, rfl⟩
                rw [hy] at hxe ⊢
                subst hxe
                clear hy
                obtain ⟨lv9, hr9, _⟩ := id hX9.rr
                obtain ⟨s0, _⟩ := hr9.fields
                obtain ⟨ra, rc, rfl⟩ := hr9.len
                have s9 : ∀ ob, (w9.alloc ob).cell? ⟨B, 0, none⟩ = some (.slice ra (R.set j { R[j] with key := key } : List (Thing Int)).length rc) := fun ob => (World.cell?_of_block (w := w9) (w' := w9.alloc ob) (a := ⟨B, 0, none⟩) (heap_alloc_old _ _ hr9.lt.1)).trans s0
                have hl9 := fun W (k : Keeps NoBlk w9 W) => lenI_o W _ S _ _ (hX9.hh.keep k (fun _ _ x => x))
                go_wp2_with fail
                refine wp_region_quiet_lit (by kernel_rfl) (by kernel_rfl) ?_
                repeat (go_big_quiet_step (fail))
                go_big_quiet_want
                go_big_quiet_op
                refine ⟨.int .i64 (((R.set j { R[j] with key := key } : List (Thing Int)).length : Nat) : Int), fun _ => ?_, ?_⟩
                · refine Calls.quiet_of_same ?_
                  exact (hl9 _ (((Keeps.refl _ _).alloc _).drewN _)).mono fun e w' h => ⟨h.1, h.2.symm⟩
                go_big_quiet_on
                repeat (go_big_quiet_step (fail))
                refine wpQuiet_nil ?_
                intro _ hw'
                obtain ⟨nq, hw'q⟩ := hw'
                subst hw'q
                go_wp2_with fail
                go_roundw
                case rel => exact ⟨i + 1, _, S, T, _, _, rfl, by go_num, by omega, hX9.keep (((Keeps.refl _ _).alloc _).drewN nq)⟩
                case measure => simp [intOf]; omega
      by_cases a4 : act = 4
      · as_aux_lemma =>
        subst a4
        have hcop := copyI_o hWa.hh hbig
        go_wp2_with fail
        refine hcop.mono ?_
        intro e w2 hp2
        obtain ⟨p2, S2, rfl, h2, f2, k2⟩ := hp2
        have hpush := pushI_o w2 p S R next (hWa.hh.keep k2 (fun _ _ q => q)) key 99 (by omega) (by omega)
        have m2 : Keeps NoBlk _ w2 := k2
        have hb2 : w2.heap[C]? = some (.cells #[.int .u8 4, .int .i64 key, .int .i64 n] 91 (0, 0)) := by
          rw [k2.block C (by simp [← hC]) (fun hs => hs), ← hC]
          exact heap_alloc_new _ _
        have y1 : w2.cell? ⟨C, 1, none⟩ = some (.int .i64 key) := by rw [cell_of_row _ _ _ _ _ _ hb2]; rfl
        have y2 : w2.cell? ⟨C, 2, none⟩ = some (.int .i64 n) := by rw [cell_of_row _ _ _ _ _ _ hb2]; rfl
        clear hb2
        clear hcop
        go_wp2_with fail
        refine hpush.mono ?_
        rintro e w3 ⟨rfl, S3, _, m3⟩
        have hX := hWa.copied k2 f2 h2 m3
        go_wp2_with fail
        refine (peekI_o _ _ _ _ _ (hX.keep (Keeps.refl _ _)).hh).mono ?_
        rintro e w8 ⟨hp8, k8⟩
        have hX8 := (hX.keep (Keeps.refl _ _)).keep k8.keeps
        have hpk := peek_r hX8.rr (by have := hX8.len; omega)
        clear hX
        rcases hp8 with ⟨z0, rfl⟩ | ⟨x, hf, rfl⟩
        · go_wp2_with fail
          refine hpk.mono ?_
          rintro e w9 ⟨hp9, k9⟩
          have hX9 := hX8.keep k9
          clear hpk hX8
          rcases hp9 with ⟨_, rfl⟩ | ⟨j, hj, _⟩
          ·
            obtain ⟨lv9, hr9, _⟩ := id hX9.rr
            obtain ⟨s0, _⟩ := hr9.fields
            obtain ⟨ra, rc, rfl⟩ := hr9.len
            have s9 : ∀ ob, (w9.alloc ob).cell? ⟨B, 0, none⟩ = some (.slice ra (R : List (Thing Int)).length rc) := fun ob => (World.cell?_of_block (w := w9) (w' := w9.alloc ob) (a := ⟨B, 0, none⟩) (heap_alloc_old _ _ hr9.lt.1)).trans s0
            have hl9 := fun W (k : Keeps NoBlk w9 W) => lenI_o W _ S2 _ _ (hX9.hh.keep k (fun _ _ x => x))
            go_wp2_with fail
            refine wp_region_quiet_lit (by kernel_rfl) (by kernel_rfl) ?_
            repeat (go_big_quiet_step (fail))
            go_big_quiet_want
            go_big_quiet_op
            refine ⟨.int .i64 (((R : List (Thing Int)).length : Nat) : Int), fun _ => ?_, ?_⟩
            · refine Calls.quiet_of_same ?_
              exact (hl9 _ (((Keeps.refl _ _).alloc _).drewN _)).mono fun e w' h => ⟨h.1, h.2.symm⟩
            go_big_quiet_on
            repeat (go_big_quiet_step (fail))
            refine wpQuiet_nil ?_
            intro _ hw'
            obtain ⟨nq, hw'q⟩ := hw'
            subst hw'q
            go_wp2_with fail
            go_roundw
            case rel => exact ⟨i + 1, _, S2, T, _, _, rfl, by go_num, by omega, hX9.keep (((Keeps.refl _ _).alloc _).drewN nq)⟩
            case measure => simp [intOf]; omega
          · exact absurd (show j < 0 from by first | exact hj | (rw [z0] at hj; exact hj)) (Nat.not_lt_zero _)
        · go_wp2_with fail
          refine hpk.mono ?_
          rintro e w9 ⟨hp9, k9⟩
          have hX9 := hX8.keep k9
          clear hpk hX8
          rcases hp9 with ⟨z0, _⟩ | ⟨jj, hjj, hF, rfl⟩
          · rw [z0] at hf; cases hf.1
          · have hxe := same_first hX9.rise hjj hF hf
            clear hF hf
            obtain ⟨y, hy⟩ : ∃ y, (R : List (Thing Int))[jj] = y := ⟨_, rfl⟩
            rw [hy] at hxe ⊢
            subst hxe
            clear hy
            obtain ⟨lv9, hr9, _⟩ := id hX9.rr
            obtain ⟨s0, _⟩ := hr9.fields
            obtain ⟨ra, rc, rfl⟩ := hr9.len
            have s9 : ∀ ob, (w9.alloc ob).cell? ⟨B, 0, none⟩ = some (.slice ra (R : List (Thing Int)).length rc) := fun ob => (World.cell?_of_block (w := w9) (w' := w9.alloc ob) (a := ⟨B, 0, none⟩) (heap_alloc_old _ _ hr9.lt.1)).trans s0
            have hl9 := fun W (k : Keeps NoBlk w9 W) => lenI_o W _ S2 _ _ (hX9.hh.keep k (fun _ _ x => x))
            go_wp2_with fail
            refine wp_region_quiet_lit (by kernel_rfl) (by kernel_rfl) ?_
            repeat (go_big_quiet_step (fail))
            go_big_quiet_want
            go_big_quiet_op
            refine ⟨.int .i64 (((R : List (Thing Int)).length : Nat) : Int), fun _ => ?_, ?_⟩
            · refine Calls.quiet_of_same ?_
              exact (hl9 _ (((Keeps.refl _ _).alloc _).drewN _)).mono fun e w' h => ⟨h.1, h.2.symm⟩
            go_big_quiet_on
            repeat (go_big_quiet_step (fail))
            refine wpQuiet_nil ?_
            intro _ hw'
            obtain ⟨nq, hw'q⟩ := hw'
            subst hw'q
            go_wp2_with fail
            go_roundw
            case rel => exact ⟨i + 1, _, S2, T, _, _, rfl, by go_num, by omega, hX9.keep (((Keeps.refl _ _).alloc _).drewN nq)⟩
            case measure => simp [intOf]; omega
      by_cases a5 : act = 5
      · as_aux_lemma =>
        subst a5
        have htl := told03_c hWa.hh hWa.rr hbig hWa.rise
        go_wp2_with fail
        refine htl.mono ?_
        rintro e w2 ⟨rfl, k2⟩
        have hX := (hWa.keep k2).up
        clear htl
        go_wp2_with fail
        go_wp2_with fail
        refine (peekI_o _ _ _ _ _ (hX.keep (Keeps.refl _ _)).hh).mono ?_
        rintro e w8 ⟨hp8, k8⟩
        have hX8 := (hX.keep (Keeps.refl _ _)).keep k8.keeps
        have hpk := peek_r hX8.rr (by have := hX8.len; omega)
        clear hX
        rcases hp8 with ⟨z0, rfl⟩ | ⟨x, hf, rfl⟩
        · go_wp2_with fail
          refine hpk.mono ?_
          rintro e w9 ⟨hp9, k9⟩
          have hX9 := hX8.keep k9
          clear hpk hX8
          rcases hp9 with ⟨_, rfl⟩ | ⟨j, hj, _⟩
          ·
            obtain ⟨lv9, hr9, _⟩ := id hX9.rr
            obtain ⟨s0, _⟩ := hr9.fields
            obtain ⟨ra, rc, rfl⟩ := hr9.len
            have s9 : ∀ ob, (w9.alloc ob).cell? ⟨B, 0, none⟩ = some (.slice ra (R : List (Thing Int)).length rc) := fun ob => (World.cell?_of_block (w := w9) (w' := w9.alloc ob) (a := ⟨B, 0, none⟩) (heap_alloc_old _ _ hr9.lt.1)).trans s0
            have hl9 := fun W (k : Keeps NoBlk w9 W) => lenI_o W _ S _ _ (hX9.hh.keep k (fun _ _ x => x))
            go_wp2_with fail
            refine wp_region_quiet_lit (by kernel_rfl) (by kernel_rfl) ?_
            repeat (go_big_quiet_step (fail))
            go_big_quiet_want
            go_big_quiet_op
            refine ⟨.int .i64 (((R : List (Thing Int)).length : Nat) : Int), fun _ => ?_, ?_⟩
            · refine Calls.quiet_of_same ?_
              exact (hl9 _ (((Keeps.refl _ _).alloc _).drewN _)).mono fun e w' h => ⟨h.1, h.2.symm⟩
            go_big_quiet_on
            repeat (go_big_quiet_step (fail))
            refine wpQuiet_nil ?_
            intro _ hw'
            obtain ⟨nq, hw'q⟩ := hw'
            subst hw'q
            go_wp2_with fail
            go_roundw
            case rel => exact ⟨i + 1, _, S, T, _, _, rfl, by go_num, by omega, hX9.keep (((Keeps.refl _ _).alloc _).drewN nq)⟩
            case measure => simp [intOf]; omega
          · exact absurd (show j < 0 from by first | exact hj | (rw [z0] at hj; exact hj)) (Nat.not_lt_zero _)
        · go_wp2_with fail
          refine hpk.mono ?_
          rintro e w9 ⟨hp9, k9⟩
          have hX9 := hX8.keep k9
          clear hpk hX8
          rcases hp9 with ⟨z0, _⟩ | ⟨jj, hjj, hF, rfl⟩
          · rw [z0] at hf; cases hf.1
          · have hxe := same_first hX9.rise hjj hF hf
            clear hF hf
            obtain ⟨y, hy⟩ : ∃ y, (R : List (Thing Int))[jj] = y := ⟨_, rfl⟩
            rw [hy] at hxe ⊢
            subst hxe
            clear hy
            obtain ⟨lv9, hr9, _⟩ := id hX9.rr
            obtain ⟨s0, _⟩ := hr9.fields
            obtain ⟨ra, rc, rfl⟩ := hr9.len
            have s9 : ∀ ob, (w9.alloc ob).cell? ⟨B, 0, none⟩ = some (.slice ra (R : List (Thing Int)).length rc) := fun ob => (World.cell?_of_block (w := w9) (w' := w9.alloc ob) (a := ⟨B, 0, none⟩) (heap_alloc_old _ _ hr9.lt.1)).trans s0
            have hl9 := fun W (k : Keeps NoBlk w9 W) => lenI_o W _ S _ _ (hX9.hh.keep k (fun _ _ x => x))
            go_wp2_with fail
            refine wp_region_quiet_lit (by kernel_rfl) (by kernel_rfl) ?_
            repeat (go_big_quiet_step (fail))
            go_big_quiet_want
            go_big_quiet_op
            refine ⟨.int .i64 (((R : List (Thing Int)).length : Nat) : Int), fun _ => ?_, ?_⟩
            · refine Calls.quiet_of_same ?_
              exact (hl9 _ (((Keeps.refl _ _).alloc _).drewN _)).mono fun e w' h => ⟨h.1, h.2.symm⟩
            go_big_quiet_on
            repeat (go_big_quiet_step (fail))
            refine wpQuiet_nil ?_
            intro _ hw'
            obtain ⟨nq, hw'q⟩ := hw'
            subst hw'q
            go_wp2_with fail
            go_roundw
            case rel => exact ⟨i + 1, _, S, T, _, _, rfl, by go_num, by omega, hX9.keep (((Keeps.refl _ _).alloc _).drewN nq)⟩
            case measure => simp [intOf]; omega
      · as_aux_lemma =>
        have hX := hWa.up
        go_wp2_with fail
        go_wp2_with fail
        refine (peekI_o _ _ _ _ _ (hX.keep (Keeps.refl _ _)).hh).mono ?_
        rintro e w8 ⟨hp8, k8⟩
        have hX8 := (hX.keep (Keeps.refl _ _)).keep k8.keeps
        have hpk := peek_r hX8.rr (by have := hX8.len; omega)
        clear hX
        rcases hp8 with ⟨z0, rfl⟩ | ⟨x, hf, rfl⟩
        · go_wp2_with fail
          refine hpk.mono ?_
          rintro e w9 ⟨hp9, k9⟩
          have hX9 := hX8.keep k9
          clear hpk hX8
          rcases hp9 with ⟨_, rfl⟩ | ⟨j, hj, _⟩
          ·
            obtain ⟨lv9, hr9, _⟩ := id hX9.rr
            obtain ⟨s0, _⟩ := hr9.fields
            obtain ⟨ra, rc, rfl⟩ := hr9.len
            have s9 : ∀ ob, (w9.alloc ob).cell? ⟨B, 0, none⟩ = some (.slice ra (R : List (Thing Int)).length rc) := fun ob => (World.cell?_of_block (w := w9) (w' := w9.alloc ob) (a := ⟨B, 0, none⟩) (heap_alloc_old _ _ hr9.lt.1)).trans s0
            have hl9 := fun W (k : Keeps NoBlk w9 W) => lenI_o W _ S _ _ (hX9.hh.keep k (fun _ _ x => x))
            go_wp2_with fail
            refine wp_region_quiet_lit (by kernel_rfl) (by kernel_rfl) ?_
            repeat (go_big_quiet_step (fail))
            go_big_quiet_want
            go_big_quiet_op
            refine ⟨.int .i64 (((R : List (Thing Int)).length : Nat) : Int), fun _ => ?_, ?_⟩
            · refine Calls.quiet_of_same ?_
              exact (hl9 _ (((Keeps.refl _ _).alloc _).drewN _)).mono fun e w' h => ⟨h.1, h.2.symm⟩
            go_big_quiet_on
            repeat (go_big_quiet_step (fail))
            refine wpQuiet_nil ?_
            intro _ hw'
            obtain ⟨nq, hw'q⟩ := hw'
            subst hw'q
            go_wp2_with fail
            go_roundw
            case rel => exact ⟨i + 1, _, S, T, _, _, rfl, by go_num, by omega, hX9.keep (((Keeps.refl _ _).alloc _).drewN nq)⟩
            case measure => simp [intOf]; omega
          · exact absurd (show j < 0 from by first | exact hj | (rw [z0] at hj; exact hj)) (Nat.not_lt_zero _)
        · go_wp2_with fail
          refine hpk.mono ?_
          rintro e w9 ⟨hp9, k9⟩
          have hX9 := hX8.keep k9
          clear hpk hX8
          rcases hp9 with ⟨z0, _⟩ | ⟨jj, hjj, hF, rfl⟩
          · rw [z0] at hf; cases hf.1
          · have hxe := same_first hX9.rise hjj hF hf
            clear hF hf
            obtain ⟨y, hy⟩ : ∃ y, (R : List (Thing Int))[jj] = y := ⟨_, rfl⟩
            rw [hy] at hxe ⊢
            subst hxe
            clear hy
            obtain ⟨lv9, hr9, _⟩ := id hX9.rr
            obtain ⟨s0, _⟩ := hr9.fields
            obtain ⟨ra, rc, rfl⟩ := hr9.len
            have s9 : ∀ ob, (w9.alloc ob).cell? ⟨B, 0, none⟩ = some (.slice ra (R : List (Thing Int)).length rc) := fun ob => (World.cell?_of_block (w := w9) (w' := w9.alloc ob) (a := ⟨B, 0, none⟩) (heap_alloc_old _ _ hr9.lt.1)).trans s0
            have hl9 := fun W (k : Keeps NoBlk w9 W) => lenI_o W _ S _ _ (hX9.hh.keep k (fun _ _ x => x))
            go_wp2_with fail
            refine wp_region_quiet_lit (by kernel_rfl) (by kernel_rfl) ?_
            repeat (go_big_quiet_step (fail))
            go_big_quiet_want
            go_big_quiet_op
            refine ⟨.int .i64 (((R : List (Thing Int)).length : Nat) : Int), fun _ => ?_, ?_⟩
            · refine Calls.quiet_of_same ?_
              exact (hl9 _ (((Keeps.refl _ _).alloc _).drewN _)).mono fun e w' h => ⟨h.1, h.2.symm⟩
            go_big_quiet_on
            repeat (go_big_quiet_step (fail))
            refine wpQuiet_nil ?_
            intro _ hw'
            obtain ⟨nq, hw'q⟩ := hw'
            subst hw'q
            go_wp2_with fail
            go_roundw
            case rel => exact ⟨i + 1, _, S, T, _, _, rfl, by go_num, by omega, hX9.keep (((Keeps.refl _ _).alloc _).drewN nq)⟩
            case measure => simp [intOf]; omega
    · have hie : i = l.length := by omega
      subst hie
      have ht := told03_c hW.hh hW.rr (by have := hW.len; omega) hW.rise
      have hkp := hW.kp
      go_wp2_with fail
      refine ht.mono ?_
      rintro e w4 ⟨rfl, k4⟩
      go_wp2_with fail
      go_ret
      exact ⟨rfl, (hkp.trans k4 (fun _ _ x => x)).below (Nat.le_refl _) (fun _ x => x.elim)⟩

end Go.Proofs.Ytofdcmbjcpfabaa
