/- QueueLeases: the walk. -/
import Derived.Test.YtofdcmbjcpfabaaLaw22l
import Derived.Test.YtofdcmbjcpfabaaIntRow
namespace Go.Proofs.Ytofdcmbjcpfabaa
open Go.RowKit Go.Maps Go.MapKept Go.ChangeMaps
attribute [local go_sem ↓] Go.wp_at_zero Go.wp_at_succ

theorem addI_zero {x : Int} (h : 1 ≤ x) (h2 : x ≤ 9223372036854775807) : addI 0 x = x := by unfold addI; split <;> (try split) <;> omega

/-- The worlds of the loops: the queue, and the row of moments. -/
structure LeW (w wr : World) (p : Nat) (S : Nat → Prop) (q : QS) (v : Value) (U : List Int) : Prop where
  kp : Keeps NoBlk w wr
  hh : IsQ wr p S q
  ls : LsQ U q
  row : RowV wr 2 1 enc1 v U
  ap : ∀ b, v.ownBlock = some b → ¬ S b
  up : ∀ b, v.ownBlock = some b → w.heap.size ≤ b
  upS : ∀ k, S k → w.heap.size ≤ k

variable {w wr w' : World} {p : Nat} {S S' : Nat → Prop} {q q' : QS} {v : Value} {U U' : List Int}

theorem LeW.move (h : LeW w wr p S q v U) (_ : IsQ w' p S' q') (hm : Moves S wr S' w') : Keeps NoBlk w w' ∧ RowV w' 2 1 enc1 v U ∧ (∀ b, v.ownBlock = some b → ¬ S' b) ∧ (∀ k, S' k → w.heap.size ≤ k) :=
  ⟨h.kp.trans hm.keeps (fun k hk hs => by have := h.upS k hs; omega), h.row.at_block (fun b hb => hm.keeps.block b (World.ownsRow.lt h.row b hb).2 (h.ap b hb)),
    fun b hb hs => by
      rcases hm.foot b hs with hs | hs
      · exact h.ap b hb hs
      · have := (World.ownsRow.lt h.row b hb).2; omega,
    fun k hk => by
      rcases hm.foot k hk with hk | hk
      · exact h.upS k hk
      · exact Nat.le_trans h.kp.size hk⟩

theorem LeW.moved (h : LeW w wr p S q v U) (hh : IsQ w' p S' q') (hm : Moves S wr S' w') (hl : LsQ U q') : LeW w w' p S' q' v U :=
  have x := h.move hh hm
  ⟨x.1, hh, hl, x.2.1, x.2.2.1, h.up, x.2.2.2⟩

set_option maxRecDepth 100000 in
set_option maxHeartbeats 2000000 in
theorem leases22_c (w : World) (v1 v2 : Value) (ks more : List Int) (now : Int) (hv1 : Ints w v1 ks) (hv2 : Ints w v2 more) (hk1 : ∀ j, j < ks.length → I64 (ks.getD j 0)) (hk2 : ∀ j, j < more.length → I64 (more.getD j 0)) :
    Calls Try.prog 6 #[v1, v2, .int .i64 now] w fun e w' => e = .returned (.bool true) ∧ Below w.heap.size w w' := by
  obtain ⟨a1, cap1, e1, _⟩ := id hv1
  obtain ⟨a2, cap2, e2, _⟩ := id hv2
  subst e1 e2
  go_enter Try.func6, Try.ntmps6
  go_wp2_with fail
  refine (awake22_c w).mono ?_
  rintro e w0 ⟨rfl, k0⟩
  by_cases b1 : (30 : Int) < ks.length
  · go_wp2_with fail
    go_ret
    exact ⟨by simp, k0.below (Nat.le_refl _) (fun _ x => x.elim)⟩
  by_cases b2 : (30 : Int) < more.length
  · go_wp2_with fail
    go_ret
    exact ⟨by simp, k0.below (Nat.le_refl _) (fun _ x => x.elim)⟩
  go_wp2_with fail
  refine (qnew_o w0 30 0 (by unfold BadNew; omega) (by omega)).mono ?_
  rintro e w1 ⟨p, S1, rfl, h1, m1⟩
  have hW1 : LeW w w1 p S1 (QS.new 30 0) (.slice none 0 0) [] :=
    ⟨k0.trans m1.keeps (fun _ _ x => x), h1, LsQ.start, RowV.nil _ _ _ _, (fun b hb => by cases hb), (fun b hb => by cases hb), fun k hk => Nat.le_trans k0.size ((m1.foot k hk).resolve_left id)⟩
  clear m1 h1 k0
  obtain ⟨i0, hi, hz0, hz1, hz2⟩ := info_parts infoI64
  go_wp2_with fail
  go_loopw [10, 11] (fun uv iv wr => ∃ (i : Nat) (v : Value) (S : Nat → Prop) (q : QS), uv = v ∧ iv = .int .i64 i ∧ i ≤ ks.length ∧ LeW w wr p S q v (ks.take i)) (fun _ iv _ => ks.length - (intOf iv).toNat)
  case atStart => exact ⟨0, _, S1, _, rfl, rfl, Nat.zero_le _, hW1⟩
  case round =>
    clear hW1
    obtain ⟨i, v, S, q, rfl, rfl, hin, hW⟩ := hrel
    have i0' : (0 : Int) ≤ i := by omega
    by_cases hlt : (i : Int) < ks.length
    · as_aux_lemma =>
        have hil : i < ks.length := by omega
        obtain ⟨Bk, ok, ck, ek, hBk, hck⟩ := hv1.at hil
        cases ek
        have hc := hck i hil
        obtain ⟨x, hx⟩ : ∃ x, ks.getD i 0 = x := ⟨_, rfl⟩
        have hx64 := hk1 i hil
        rw [hx] at hc hx64
        have c1 := (hW.kp.cell (p := ⟨Bk, ok + i, none⟩) hBk id).trans hc
        have hlen : (ks.take i).length = i := by rw [List.length_take]; omega
        have htk : Hid (ks.take (i + 1) = ks.take i ++ [x]) := by
          show _ = _
          rw [List.take_succ_eq_append_getElem hil, ← hx]; simp [hil]
        by_cases hb : x < 1
        · have hkp := hW.kp
          clear hW hck hk1 hx
          go_wp2_with fail
          go_ret
          exact ⟨by simp, hkp.below (Nat.le_refl _) (fun _ x => x.elim)⟩
        · have hput : Calls Try.prog 20 #[.pointer (some ⟨p, 0, none⟩), .string (nm i), .string ⟨#[]⟩, .int .i64 0] wr fun e w' => e = .returned (.int .i64 0) ∧ ∃ S', IsQ w' p S' (q.wait ⟨nm i, ⟨#[]⟩, 0, 0⟩) ∧ Moves S wr S' w' := by
            have hl : q.waits.length = 0 := by rw [hW.ls.waits]; rfl
            exact qputOk_o hW.hh (nm i) ⟨#[]⟩ 0 (by rw [nm_size (by omega)]; decide) ⟨by omega, by omega⟩ (hW.ls.there i (by omega) (by omega)) (by rw [hW.ls.most, hl]; omega) (by rw [hl]; omega)
          have hpoll : ∀ w2 S2, IsQ w2 p S2 (q.wait ⟨nm i, ⟨#[]⟩, 0, 0⟩) → Calls Try.prog 22 #[.pointer (some ⟨p, 0, none⟩), .string ⟨#[119]⟩, .int .i64 0, .int .i64 x] w2 fun e w' => e = .returned (.tuple #[.string (nm i), .int .i64 (i + 1), .int .i64 1, .int .i64 0]) ∧ ∃ S' q', IsQ w' p S' q' ∧ Hid (LsQ (ks.take i ++ [x]) q') ∧ Moves S2 w2 S' w' := fun w2 S2 h2 => by
            have hw : (q.wait ⟨nm i, ⟨#[]⟩, 0, 0⟩).waits = [⟨nm i, ⟨#[]⟩, 0, 0⟩] := by show q.waits ++ [_] = _; rw [hW.ls.waits]; rfl
            have hnx : (q.wait ⟨nm i, ⟨#[]⟩, 0, 0⟩).next = (i : Int) + 1 := by show q.next = _; rw [hW.ls.next, hlen]
            have h9 := qpollHit_o h2 ⟨#[119]⟩ 0 x (by omega) hx64.2 ⟨by omega, by omega⟩ 0 ⟨nm i, ⟨#[]⟩, 0, 0⟩ (by rw [hw]; rfl) (by rw [hw]; exact idxI_cons_hit (forB_free (Int.le_refl _) rfl)) (by rw [hnx]; omega) (by show (0 : Int) < _; omega)
            rw [hnx, addI_zero (by omega) hx64.2] at h9
            have h8 := hW.ls.step (by omega) x
            rw [hlen] at h8
            exact h9.mono fun e w' ⟨a1, S', a2, a3⟩ => ⟨a1, S', _, a2, h8, a3⟩
          have hS2 := fun w2 S2 h2 m2 => hW.move (w' := w2) (S' := S2) (q' := q.wait ⟨nm i, ⟨#[]⟩, 0, 0⟩) h2 m2
          clear hck hk1 hx hc hx64
          go_wp2_with fail
          refine hput.mono ?_
          rintro e w2 ⟨rfl, S2, h2, m2⟩
          have c2 := ((hW.kp.trans m2.keeps (fun k hk hs => by have := hW.upS k hs; omega)).cell (p := ⟨Bk, ok + i, none⟩) hBk id).trans ((hW.kp.cell (p := ⟨Bk, ok + i, none⟩) hBk id).symm.trans c1)
          go_wp2_with fail
          refine (hpoll w2 S2 h2).mono ?_
          rintro e w3 ⟨rfl, S3, q3, h3, hl3, m3⟩
          obtain ⟨k3, r3, a3, u3⟩ := hW.move h3 (m2.trans m3)
          have hup := hW.up
          have c3 := ((k3.cell (p := ⟨Bk, ok + i, none⟩) hBk id)).trans ((hW.kp.cell (p := ⟨Bk, ok + i, none⟩) hBk id).symm.trans c1)
          obtain ⟨C, hC⟩ : ∃ C, w3.heap.size = C := ⟨_, rfl⟩
          have hS3 := h3.lt
          clear hput hpoll hS2 c1 c2 m2 m3 h2 hW
          go_wp2_with (at_builtin; refine wpList_append_lies _ (by rfl) (.tmp 75) (.tmp 80) 37 (by rfl) 0 2 i0 (.int .i64 0) 1 8 Try.underlying37 hi hz0 hz1 hz2 (by rfl) (by decide) u10 i ((ks.take i).flatMap enc1) (by rfl) ?hown ⟨C, 0, none⟩ 1 1 [.int .i64 x] (by rfl) (by rfl) ?news ?h1 (by decide) ?b63 ?bby (Nat.zero_le _) (C + 1) (by simp [hC]) ?k)
          case hown =>
            have : RowV (w3.alloc (.cells #[.int .i64 x] 2)) 2 1 enc1 u10 (ks.take i) := r3.at_block (fun b hb => Below.heap_alloc _ _ _ (World.ownsRow.lt r3 b hb).2)
            unfold RowV at this
            rw [hlen] at this
            exact this
          case news =>
            refine World.news_of_block (cs := #[.int .i64 x]) (t := 2) (fr := (0, 0)) ?_
            rw [← hC]
            exact (heap_alloc_new _ _).trans (by rfl)
          case h1 => intro u hu; simp at hu; subst hu; rfl
          case b63 => unfold maxLen; omega
          case bby => omega
          case k =>
            intro g4 cap4 w4 hown hgrow hat hlt4
            have k4 : Keeps (fun k => u10.ownBlock = some k) w3 w4 := ((Keeps.refl (fun k => u10.ownBlock = some k) w3).alloc _).grown hgrow (fun k e _ => e)
            have hrow4 : RowV w4 2 1 enc1 (.slice (some ⟨g4, 0, none⟩) (i + 1) cap4) (ks.take (i + 1)) := by
              unfold RowV
              rw [htk.out, List.flatMap_append, List.length_append, hlen]
              simpa [enc1] using hown
            have hfr4 : ∀ b, (Value.slice (some ⟨g4, 0, none⟩) (i + 1) cap4).ownBlock = some b → w.heap.size ≤ b ∧ ¬ S3 b := fun b hb => by
              cases hb
              rcases hat with e | e
              · exact ⟨hup _ e, a3 _ e⟩
              · have := k3.size
                refine ⟨by show w.heap.size ≤ g4; omega, fun hs => ?_⟩
                have : g4 < w3.heap.size := hS3 _ hs
                omega
            have hW4 : LeW w w4 p S3 q3 (.slice (some ⟨g4, 0, none⟩) (i + 1) cap4) (ks.take (i + 1)) :=
              ⟨k3.trans k4 (fun b hb e => by have := hup b e; omega), h3.keep k4 (fun k hk e => a3 k e hk), by rw [htk.out]; exact hl3.out, hrow4, fun b hb => (hfr4 b hb).2, fun b hb => (hfr4 b hb).1, u3⟩
            clear hown hgrow k4 hrow4 hfr4 r3 a3 u3 c3
            go_wp2_with fail
            go_roundw
            case rel => exact ⟨i + 1, _, S3, q3, rfl, by go_num, by omega, hW4⟩
            case measure => simp [intOf]; omega
    · have him : i = ks.length := by omega
      subst him
      rw [List.take_length] at hW
      have hform : ∃ ao co, u10 = .slice ao ks.length co := by
        rcases hW.row.form with ⟨e1, e2⟩ | ⟨b, co, e⟩
        · exact ⟨none, 0, by rw [e1, e2]; rfl⟩
        · exact ⟨_, _, e⟩
      obtain ⟨ao, co, rfl⟩ := hform
      go_wp2_with fail
      go_loopw [16] (fun iv wr => ∃ (j : Nat) (U : List Int) (q : QS), iv = .int .i64 j ∧ j ≤ more.length ∧ U.length = ks.length ∧ LeW w wr p S q (.slice ao ks.length co) U) (fun iv _ => more.length - (intOf iv).toNat)
      case atStart => exact ⟨0, ks, q, rfl, Nat.zero_le _, rfl, hW⟩
      case round =>
        clear hW
        obtain ⟨j, U, q, rfl, hj, hU, hW⟩ := hrel
        have j0 : (0 : Int) ≤ j := by omega
        by_cases hlt2 : (j : Int) < more.length
        · have hjl : j < more.length := by omega
          obtain ⟨Bm, om, cm, em, hBm, hcm⟩ := hv2.at hjl
          cases em
          have hc := hcm j hjl
          obtain ⟨y, hy⟩ : ∃ y, more.getD j 0 = y := ⟨_, rfl⟩
          have hy64 := hk2 j hjl
          rw [hy] at hc hy64
          have c2 := (hW.kp.cell (p := ⟨Bm, om + j, none⟩) hBm id).trans hc
          clear hcm hk1 hk2 hy
          by_cases hb : y < 1
          · have hbeat := qbeatBad_o hW.hh (j + 1) 0 y hb
            go_wp2_with fail
            refine hbeat.mono ?_
            rintro e w3 ⟨rfl, rfl⟩
            go_wp2_with fail
            go_roundw
            case rel => exact ⟨j + 1, U, q, by go_num, by omega, hU, hW⟩
            case measure => simp [intOf]; omega
          · by_cases hjU : (ks.length : Int) ≤ j
            · have hbeat := qbeatNo_o hW.hh (j + 1) 0 y hb ⟨by omega, by omega⟩ (hW.ls.no (by omega))
              go_wp2_with fail
              refine hbeat.mono ?_
              rintro e w3 ⟨rfl, k3⟩
              have c3 := (k3.cell (p := ⟨Bm, om + j, none⟩) (Nat.lt_of_lt_of_le hBm hW.kp.size) id).trans c2
              have hW3 : LeW w w3 p S q (.slice ao ks.length co) U := hW.moved (hW.hh.keep k3 (fun _ _ x => x)) ⟨k3.of_none, fun k hk => .inl hk⟩ hW.ls
              go_wp2_with fail
              go_roundw
              case rel => exact ⟨j + 1, U, q, by go_num, by omega, hU, hW3⟩
              case measure => simp [intOf]; omega
            · have hjk : j < U.length := by omega
              have hbeat := qbeatYes_o hW.hh (j + 1) 0 y hb hy64.2 ⟨by omega, by omega⟩ ⟨by omega, by omega⟩ _ (hW.ls.out hjk)
              rw [addI_zero (by omega) hy64.2] at hbeat
              obtain ⟨gU, cU, eU, hgU, cu⟩ := hW.row.int1 hjk
              rw [hU] at eU
              cases eU
              go_wp2_with fail
              refine hbeat.mono ?_
              rintro e w3 ⟨rfl, h3, m3⟩
              obtain ⟨k3, r3, a3, u3⟩ := hW.move h3 m3
              have hLs := hW.ls.beat hjk y
              have c3 := (k3.cell (p := ⟨Bm, om + j, none⟩) hBm id).trans ((hW.kp.cell (p := ⟨Bm, om + j, none⟩) hBm id).symm.trans c2)
              have cu3 := (m3.keeps.cell (p := ⟨gU, j, none⟩) hgU (hW.ap gU rfl)).trans cu
              have hup := hW.up gU rfl
              have hr3 : RowAt w3 2 1 enc1 gU co U := by
                have : RowV w3 2 1 enc1 (.slice (some ⟨gU, 0, none⟩) U.length co) U := by rw [hU]; exact r3
                exact this
              have f3 := hr3.frozen j
              have hB3 : Bm ≠ gU := by omega
              obtain ⟨u, hu⟩ : ∃ u, U.getD j 0 = u := ⟨_, rfl⟩
              have h3' := h3
              rw [hu] at hLs cu3 h3'
              have hstore := hr3.set enc1_len hjk (maxI u y)
              clear hbeat hW cu c2 hu
              have hfin : ∀ z W, maxI u y = z → Keeps NoBlk (w3.setCell ⟨gU, j, none⟩ (.int .i64 z)) W → ∃ U' q', LeW w W p S q' (.slice (some ⟨gU, 0, none⟩) ks.length co) U' ∧ U'.length = ks.length := fun z W hz hk => by
                subst hz
                have kS : Keeps (fun k => k = gU) w3 (w3.setCell ⟨gU, j, none⟩ (.int .i64 (maxI u y))) := (Keeps.refl (fun k => k = gU) w3).setCell (p := ⟨gU, j, none⟩) (fun _ => rfl) _
                have h4 := (h3'.keep kS (fun k hk e => a3 gU rfl (e ▸ hk))).keep hk (fun _ _ x => x)
                refine ⟨U.set j (maxI u y), _, ⟨(k3.trans kS (fun k hk e => by omega)).trans hk (fun _ _ x => x), h4, hLs, ?_, a3, fun b hb => by cases hb; exact hup, u3⟩, by rw [List.length_set]; exact hU⟩
                have hs1 : RowAt (w3.setCell ⟨gU, j, none⟩ (.int .i64 (maxI u y))) 2 1 enc1 gU co (U.set j (maxI u y)) := by
                  have := hstore
                  rw [Nat.mul_one] at this
                  exact this
                have hs2 := hs1.at_block (hk.block gU hs1.lt id)
                have : RowV W 2 1 enc1 (.slice (some ⟨gU, 0, none⟩) (U.set j (maxI u y)).length co) (U.set j (maxI u y)) := hs2
                rw [List.length_set, hU] at this
                exact this
              have hz := hfin (max u y)
              clear hfin hstore hLs
              go_wp2_with fail
              go_region_law (fail)
              all_goals (go_wp2_with fail)
              all_goals
                go_roundw
                case rel =>
                  obtain ⟨U', q', hW', hU'⟩ := hz _ (by unfold maxI; split <;> omega) ((Keeps.refl _ _).drew)
                  exact ⟨j + 1, U', q', by go_num, by omega, hU', hW'⟩
                case measure => simp [intOf]; omega
        · have hexp := expireQ_o hW.hh hW.ls.pos (by rw [hW.ls.next]; have := hW.ls.n30; omega) now
          have hn30 := hW.ls.n30
          go_wp2_with fail
          refine hexp.mono ?_
          rintro e w3 ⟨a3, c3, l, rfl, hout, hrow3, hfr3, k3⟩
          have hl := hW.ls.all hout
          have hW3 : LeW w w3 p S q (.slice ao ks.length co) U := hW.moved (hW.hh.keep k3 (fun _ _ x => x)) ⟨k3.of_none, fun k hk => .inl hk⟩ hW.ls
          subst hl
          obtain ⟨M, hM⟩ : ∃ M, ((los U).filter fun x => decide (x.till ≤ now)).length = M := ⟨_, rfl⟩
          have hMo := over_all U now
          rw [hM] at hMo hrow3 ⊢
          clear hexp hW hfr3 k3 hout
          go_wp2_with fail
          go_loopw [19, 20] (fun kv iv wr => ∃ i : Nat, kv = .int .i64 (over U now i) ∧ iv = .int .i64 i ∧ i ≤ U.length ∧ LeW w wr p S q (.slice ao ks.length co) U ∧ RowV wr 61 3 encO (.slice a3 M c3) ((los U).filter fun x => decide (x.till ≤ now))) (fun _ iv _ => U.length - (intOf iv).toNat)
          case atStart => exact ⟨0, rfl, rfl, Nat.zero_le _, hW3, hrow3⟩
          case round =>
            clear hW3 hrow3
            obtain ⟨i, rfl, rfl, hi, hW, hrow⟩ := hrel
            have i0 : (0 : Int) ≤ i := by omega
            by_cases hlt : (i : Int) < ks.length
            · have hil : i < U.length := by omega
              have hos := over_succ U now hil
              obtain ⟨gU, cU, eU, hgU, cu⟩ := hW.row.int1 hil
              rw [hU] at eU
              cases eU
              obtain ⟨u, hu⟩ : ∃ u, U.getD i 0 = u := ⟨_, rfl⟩
              have huh : Hid (U.getD i 0 = u) := hu
              obtain ⟨kk, hkk⟩ : ∃ kk, over U now i = kk := ⟨_, rfl⟩
              rw [hu] at cu hos
              rw [hkk] at hos ⊢
              by_cases hnow : now < u
              · rw [if_neg (by omega)] at hos
                clear hu
                go_wp2_with fail
                go_roundw
                case rel => exact ⟨i + 1, by rw [hos]; rfl, by go_num, by omega, hW, hrow⟩
                case measure => simp [intOf]; omega
              · rw [if_pos (by omega)] at hos
                have hit := over_hit U now hil (by rw [hu]; omega)
                rw [hkk, hu] at hit
                obtain ⟨hkM, hget⟩ := List.getElem?_eq_some_iff.1 hit
                have hkM' : kk < M := by rw [← hM]; exact hkM
                clear hit hu hkk
                obtain ⟨gb, rfl⟩ : ∃ gb, a3 = some ⟨gb, 0, none⟩ := by
                  rcases hrow.form with ⟨e1, e2⟩ | ⟨b, c', e⟩
                  · injection e1 with _ e3 _; omega
                  · injection e with e1 _ _; exact ⟨b, e1⟩
                have hr : RowAt wr 61 3 encO gb c3 ((los U).filter fun x => decide (x.till ≤ now)) := by
                  have : RowV wr 61 3 encO (.slice (some ⟨gb, 0, none⟩) ((los U).filter fun x => decide (x.till ≤ now)).length c3) ((los U).filter fun x => decide (x.till ≤ now)) := by rw [hM]; exact hrow
                  exact this
                have q0 := hr.cell encO_len hkM (j := 0) (by omega)
                have q1 := hr.cell encO_len hkM (j := 1) (by omega)
                have q2 := hr.cell encO_len hkM (j := 2) (by omega)
                rw [hget] at q0 q1 q2
                have r0 : wr.cell? ⟨gb, kk * 3, none⟩ = some (.string (nm i)) := q0
                have r1 : wr.cell? ⟨gb, kk * 3 + 1, none⟩ = some (.int .i64 (i + 1)) := q1
                have r2 : wr.cell? ⟨gb, kk * 3 + 2, none⟩ = some (.int .i64 1) := q2
                have kk0 : (0 : Int) ≤ kk := by omega
                have kk1 : ¬ (M : Int) ≤ kk := by omega
                have kk2 : (kk : Int) < M := by omega
                have kk3 : ¬ M ≤ kk := by omega
                have kk4 : decide ((M : Int) ≤ kk) = false := by simpa using kk3
                have i52 : (i : Int) + 1 ≤ 52 := by omega
                have hM30 : M ≤ 30 := by
                  have := List.length_filter_le (fun x => decide (x.till ≤ now)) (los U)
                  rw [los_len, hM] at this
                  omega
                have kk5 : (kk : Int) ≤ 30 := by omega
                clear q0 q1 q2 hr hget hkM
                go_wp2_with fail
                unfold nm names22 at r0
                go_quiet (fail)
                generalize hwq : wr.drewN nq = wq
                have kq : Keeps NoBlk wr wq := by subst hwq; exact ⟨rfl, rfl, rfl, Nat.le_refl _, fun _ _ _ => rfl⟩
                have hWq : LeW w wq p S q (.slice (some ⟨gU, 0, none⟩) ks.length co) U := hW.moved (hW.hh.keep kq (fun _ _ x => x)) ⟨kq.of_none, fun k hk => .inl hk⟩ hW.ls
                have hrowq := hrow.at_block (fun b hb => kq.block b (World.ownsRow.lt hrow b hb).2 id)
                clear hwq r0 r1 r2 cu hW hrow
                go_wp2_with fail
                go_roundw
                case rel => exact ⟨i + 1, by rw [hos]; go_num, by go_num, by omega, hWq, hrowq⟩
                case measure => simp [intOf]; omega
            · have hil : i = U.length := by omega
              subst hil
              have hq := outsQ_o hW.hh hW.ls.pos (by rw [hW.ls.next]; omega)
              have hls := hW.ls
              have hkp := hW.kp
              rw [← hMo]
              clear hrow hM hMo
              go_wp2_with fail
              refine hq.mono ?_
              rintro e w5 ⟨a5, c5, l5, rfl, hout5, _, _, k5⟩
              have hl5 := hls.all hout5
              subst hl5
              have hft : ((los U).filter fun _ => true).length = ks.length := by rw [List.filter_eq_self.2 (fun _ _ => rfl), los_len, hU]
              rw [hft]
              go_wp2_with fail
              go_ret
              exact ⟨by simp, (hkp.trans k5 (fun _ _ x => x)).below (Nat.le_refl _) (fun _ x => x.elim)⟩

end Go.Proofs.Ytofdcmbjcpfabaa
