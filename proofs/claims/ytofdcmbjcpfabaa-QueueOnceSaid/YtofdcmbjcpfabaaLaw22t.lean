/- QueueOnce: the walk. -/
import Derived.Test.YtofdcmbjcpfabaaLaw22s
import Derived.Test.YtofdcmbjcpfabaaQTell
namespace Go.Proofs.Ytofdcmbjcpfabaa
open Go.RowKit Go.Maps Go.MapKept Go.ChangeMaps
attribute [local go_sem ↓] Go.wp_at_zero Go.wp_at_succ

set_option maxRecDepth 100000 in
set_option maxHeartbeats 2000000 in
theorem qpollBad_o {w : World} {p : Nat} {S : Nat → Prop} {q : QS} (h : IsQ w p S q) (who : ByteArray) (now lease : Int) (hl : lease < 1) :
    Calls Try.prog 22 #[.pointer (some ⟨p, 0, none⟩), .string who, .int .i64 now, .int .i64 lease] w fun e w' =>
      e = .returned (.tuple #[.string ⟨#[]⟩, .int .i64 0, .int .i64 0, .int .i64 1]) ∧ Keeps NoBlk w w' := by
  obtain ⟨lv, mo, mt, h, hq, _⟩ := h
  obtain ⟨la, lc, rfl⟩ := h.len
  have hb := PollBox.of w p who now
  have hpl := h.lt.1
  obtain ⟨B, hB⟩ : ∃ B, w.heap.size = B := ⟨_, rfl⟩
  have hmf := makeFunc_run
  go_enter Try.func22, Try.ntmps22
  go_wp2_with fail
  refine name_calls ?_
  intro w1 hw1
  rw [← hw1] at hb
  rw [hB] at hb
  clear hw1
  have h1 := h.keep0 hb.gr.keeps
  have cq := hb.q.cell
  refine (qmade_c w1 p mo mt _ q h1 hq.n0).mono ?_
  rintro e w2 ⟨rfl, rfl⟩
  go_wp2_with fail
  refine bodyPost_ret (v := .tuple #[.string ⟨#[]⟩, .int .i64 0, .int .i64 0, .int .i64 1]) (by simp [results, go_sem]) rfl ?_
  exact ⟨rfl, hb.gr.keeps⟩

theorem idxI_cases (P : Task → Bool) (ts : List Task) : idxI P ts = -1 ∨ ∃ (k : Nat) (t : Task), idxI P ts = k ∧ ts[k]? = some t := by
  unfold idxI
  by_cases h : ts.findIdx P < ts.length
  · rw [if_pos h]
    exact .inr ⟨_, ts[ts.findIdx P], rfl, List.getElem?_eq_getElem h⟩
  · rw [if_neg h]; exact .inl rfl

theorem outs_of {w : World} {p : Nat} {S : Nat → Prop} {q : QS} {kf : ByteArray → Option Int} {hs : List Hold} {i : Nat} (h : IsQ w p S q) (hO : OnceQ q kf hs i) (hi : i ≤ 100) : Calls Try.prog 39 #[.pointer (some ⟨p, 0, none⟩)] w (OutsP w hs q) := by
  refine (outsQ_o h hO.qpos (by have := hO.nx; omega)).mono ?_
  rintro e w' ⟨a, c, l, rfl, ho, hrow, _, hk⟩
  have hf : l.filter (fun _ => true) = l := by simp
  rw [hf] at hrow ⊢
  refine ⟨a, c, l, rfl, ?_, fun x hx => (ho.mem x).1 hx, hrow, hk⟩
  have hs1 : (l.map (fun x => (x.tok, x.t.key))).Pairwise (fun a b => a.1 < b.1) := List.Pairwise.map _ (fun _ _ x => x) ho.rise
  have nd : ∀ {l : List (Int × ByteArray)}, l.Pairwise (fun a b => a.1 < b.1) → l.Nodup := fun hl => hl.imp (fun hab e => by subst e; omega)
  have hp : (l.map (fun x => (x.tok, x.t.key))).Perm hs := by
    refine (List.perm_ext_iff_of_nodup (nd hs1) (nd hO.rise)).2 fun ⟨t, k⟩ => ?_
    rw [hO.held, List.mem_map]
    constructor
    · rintro ⟨x, hx, e⟩
      cases e
      exact ⟨x, (ho.mem x).1 hx, rfl⟩
    · rintro ⟨x, hx, rfl⟩
      have := (hO.ok t x hx).1
      subst this
      exact ⟨x, (ho.mem x).2 hx, rfl⟩
  exact hp.eq_of_pairwise (fun a b _ _ h1 h2 => by omega) hs1 hO.rise

/-- The worlds of the law's loop. -/
structure OncW (w wr : World) (p kb : Nat) (S : Nat → Prop) (q : QS) (kf : ByteArray → Option Int) (hs : List Hold) (kn : Nat) (hv : Value) (i : Nat) : Prop where
  kp : Keeps NoBlk w wr
  hq : IsQ wr p S q
  mp : MapFn wr Try.prog 9 Value.string (Value.int .i64) kb kn kf
  kl : kn ≤ i
  rh : RowV wr 76 2 encH hv hs
  upS : ∀ k, S k → w.heap.size ≤ k
  nk : ¬ S kb
  upk : w.heap.size ≤ kb
  uph : ∀ b, hv.ownBlock = some b → w.heap.size ≤ b ∧ ¬ S b ∧ b ≠ kb

section
variable {w wr wt : World} {p kb kn i : Nat} {S S2 : Nat → Prop} {q q2 : QS} {kf : ByteArray → Option Int} {hs : List Hold} {hv : Value}

theorem OncW.keep (h : OncW w wr p kb S q kf hs kn hv i) (hk : Keeps NoBlk wr wt) : OncW w wt p kb S q kf hs kn hv i :=
  ⟨h.kp.trans hk (fun _ _ x => x), h.hq.keep hk (fun _ _ x => x), h.mp.at_block (hk.block kb h.mp.lt id), h.kl, h.rh.at_block (fun b hb => hk.block b (World.ownsRow.lt h.rh b hb).2 id), h.upS, h.nk, h.upk, h.uph⟩

theorem OncW.up (h : OncW w wr p kb S q kf hs kn hv i) {j : Nat} (hj : i ≤ j) : OncW w wr p kb S q kf hs kn hv j :=
  ⟨h.kp, h.hq, h.mp, Nat.le_trans h.kl hj, h.rh, h.upS, h.nk, h.upk, h.uph⟩

theorem OncW.move (h : OncW w wr p kb S q kf hs kn hv i) (m : Moves S wr S2 wt) (h2 : IsQ wt p S2 q2) : OncW w wt p kb S2 q2 kf hs kn hv i := by
  refine ⟨h.kp.trans m.keeps (fun k hk hs => by have := h.upS k hs; omega), h2, h.mp.at_block (m.keeps.block kb h.mp.lt h.nk), h.kl, h.rh.at_block (fun b hb => m.keeps.block b (World.ownsRow.lt h.rh b hb).2 (h.uph b hb).2.1), fun k hk => ?_, ?_, h.upk, fun b hb => ⟨(h.uph b hb).1, ?_, (h.uph b hb).2.2⟩⟩
  · rcases m.foot k hk with e | e
    · exact h.upS k e
    · exact Nat.le_trans h.kp.size e
  · exact fun hs => m.apart (T := fun k => k = kb) (fun k e => by subst e; exact h.mp.lt) (fun k hz e => by subst e; exact h.nk hz) kb hs rfl
  · exact fun hs => m.apart (T := fun k => k = b) (fun k e => by subst e; exact (World.ownsRow.lt h.rh k hb).2) (fun k hz e => by subst e; exact (h.uph k hb).2.1 hz) b hs rfl

theorem OncW.store (h : OncW w wr p kb S q kf hs kn hv i) {k : ByteArray} (hk : k.size ≤ maxLen) (v : Int) : ∃ o kn', (Instr.mapUpdate 71 (.map (some kb)) (.string k) (.int .i64 v)).run Try.prog wr = .ok () (setBlock wr kb o) ∧ OncW w (setBlock wr kb o) p kb S q (fput kf k v) hs kn' hv (i + 1) := by
  obtain ⟨o, ho⟩ := h.mp.store keyS Try.underlying71 strInj (keyOf_s hk) v
  obtain ⟨h1, h2⟩ := ho wr rfl
  have hkk : Keeps (fun b => b = kb) wr (setBlock wr kb o) := (Keeps.refl (fun b => b = kb) wr).setBlock (fun _ => rfl) _
  refine ⟨o, _, h1, h.kp.trans hkk (fun b hb e => by have := h.upk; omega), h.hq.keep hkk (fun k hs e => by subst e; exact h.nk hs), h2, ?_, h.rh.at_block (fun b hb => hkk.block b (World.ownsRow.lt h.rh b hb).2 (h.uph b hb).2.2), h.upS, h.nk, h.upk, h.uph⟩
  have := h.kl
  split <;> omega

theorem OncW.look (h : OncW w wr p kb S q kf hs kn hv i) {k : ByteArray} (hk : k.size ≤ maxLen) (c : Bool) : (Instr.lookup 71 (.map (some kb)) (.string k) c).run Try.prog wr = .ok (if c then .tuple #[((kf k).map (Value.int .i64)).getD (.int .i64 0), .bool (kf k).isSome] else ((kf k).map (Value.int .i64)).getD (.int .i64 0)) wr :=
  h.mp.look c keyS Try.underlying71 (zeroI wr) strInj (keyOf_s hk)

/-- Other holds, in memory of their own. -/
theorem OncW.held (h : OncW w wr p kb S q kf hs kn hv i) {hs' : List Hold} {hv' : Value} (hk : Keeps (fun b => hv.ownBlock = some b) wr wt) (hr : RowV wt 76 2 encH hv' hs') (hf : ∀ b, hv'.ownBlock = some b → hv.ownBlock = some b ∨ wr.heap.size ≤ b) : OncW w wt p kb S q kf hs' kn hv' i := by
  refine ⟨h.kp.trans hk (fun b hb e => by have := (h.uph b e).1; omega), h.hq.keep hk (fun k hs e => (h.uph k e).2.1 hs), h.mp.at_block (hk.block kb h.mp.lt (fun e => (h.uph kb e).2.2 rfl)), h.kl, hr, h.upS, h.nk, h.upk, fun b hb => ?_⟩
  rcases hf b hb with e | e
  · exact h.uph b e
  · have hl := h.hq.lt
    refine ⟨Nat.le_trans h.kp.size e, fun hs => ?_, fun e2 => ?_⟩
    · have := hl b hs; omega
    · have := h.mp.lt; omega
end

theorem i64_of_wf {n : Int} (h : (Lit.int .i64 n).wf = true) : I64 n := by
  simp [Lit.wf, IntKind.min, IntKind.max, IntKind.signed, IntKind.bits] at h
  unfold I64
  omega

set_option maxRecDepth 100000 in
set_option maxHeartbeats 40000000 in
theorem once22_c (w : World) (most grace : Int) (v : Value) (l : List St22) (hg : I64 grace) (hm : I64 most) (hv : Steps22 w v l) :
    Calls Try.prog 8 #[.int .i64 most, .int .i64 grace, v] w fun e w' => e = .returned (.bool true) ∧ Below w.heap.size w w' := by
  obtain ⟨a, cap, e, _⟩ := id hv
  subst e
  have hmm := @run_makeMap Try.prog
  obtain ⟨i0, hi0, hz0, hz1, hz2⟩ := info_parts infoH
  go_enter Try.func8, Try.ntmps8
  go_wp2_with fail
  refine (awake22_c w).mono ?_
  rintro e w0 ⟨rfl, k0⟩
  have hv0 := hv.keep k0 (fun _ _ x => x)
  go_wp2_with fail
  refine (long22_c hv0).mono ?_
  intro e w1 hlg
  obtain ⟨lb, rfl, hlb, rfl⟩ := hlg
  cases lb with
  | true =>
    go_wp2_with fail
    go_ret
    exact ⟨rfl, k0.below (Nat.le_refl _) (fun _ x => x.elim)⟩
  | false =>
    obtain ⟨_, hsz⟩ := hlb rfl
    by_cases h80 : (80 : Int) < l.length
    · go_wp2_with fail
      go_ret
      exact ⟨rfl, k0.below (Nat.le_refl _) (fun _ x => x.elim)⟩
    · have hl80 : l.length ≤ 80 := by omega
      by_cases hbad : BadNew most grace
      · have hnb := qnewBad_c w0 most grace hbad
        go_wp2_with fail
        refine hnb.mono ?_
        rintro e w2 ⟨rfl, rfl⟩
        go_wp2_with fail
        go_ret
        exact ⟨rfl, k0.below (Nat.le_refl _) (fun _ x => x.elim)⟩
      · have hnw := qnew_o w0 most grace hbad hg.2
        go_wp2_with fail
        refine hnw.mono ?_
        rintro e w2 ⟨p, S0, rfl, hq0, m0⟩
        obtain ⟨kb, hkb⟩ : ∃ kb, w2.heap.size = kb := ⟨_, rfl⟩
        have ks := k0.size
        have hW0 : OncW w (w2.alloc (.map #[] 0)) p kb S0 (QS.new most grace) (fun _ => none) [] 0 (.slice none 0 0) 0 := by
          have ka : Keeps NoBlk w2 (w2.alloc (.map #[] 0)) := (Keeps.refl _ _).alloc _
          have km : Keeps NoBlk w w2 := k0.trans m0.keeps (fun _ _ x => x)
          refine ⟨km.trans ka (fun _ _ x => x), hq0.keep ka (fun _ _ x => x), by rw [← hkb]; exact MapFn_made _ _ _ _ _, Nat.le_refl _, RowV.nil _ _ _ _, fun k hk => ?_, fun hs => ?_, by rw [← hkb]; exact km.size, fun b hb => by cases hb⟩
          · have := (m0.foot k hk).resolve_left id; omega
          · have := hq0.lt kb hs; omega
        have hO0 := OnceQ.start most grace
        have hn0 : (0 : Int) < (QS.new most grace).next := by show (0 : Int) < 1; omega
        clear hnw hq0 m0 k0 hv0 hlb
        go_wp2_with fail
        go_loopw [10, 11, 12] (fun ov lv iv wr => ∃ (i : Nat) (S : Nat → Prop) (q : QS) (kf : ByteArray → Option Int) (hs : List Hold) (kn : Nat) (la : Int), lv = .int .i64 la ∧ iv = .int .i64 i ∧ i ≤ l.length ∧ la < q.next ∧ OnceQ q kf hs i ∧ OncW w wr p kb S q kf hs kn ov i) (fun _ _ iv _ => l.length - (intOf iv).toNat)
        case atStart => exact ⟨0, S0, _, _, _, _, 0, rfl, rfl, Nat.zero_le _, hn0, hO0, hW0⟩
        case round =>
          clear hW0 hO0 hn0
          obtain ⟨i, S, q, kf, hs, kn, la, rfl, rfl, hil, hla, hOnce, hW⟩ := hrel
          have iz : (0 : Int) ≤ i := by omega
          by_cases hlt : (i : Int) < l.length
          · have hil2 : i < l.length := by omega
            obtain ⟨b, off, cap', ev, hbl, c0, c1, c2, c3, c4, c5, g0, g1, g2, g3, g4, g5⟩ := hv.at hil2
            cases ev
            obtain ⟨x, hx⟩ : ∃ x, l[i] = x := ⟨_, rfl⟩
            have hxz := hsz l[i] (List.getElem_mem hil2)
            rw [hx] at c0 c1 c2 c3 c4 c5 g0 g1 g2 g3 g4 g5 hxz
            obtain ⟨act, key, who, time, lease, n⟩ := x
            simp only at c0 c1 c2 c3 c4 c5 g0 g1 g2 g3 g4 g5 hxz
            have d0 := (hW.kp.cell (p := ⟨b, off + i * 6, none⟩) hbl id).trans c0
            have d1 := (hW.kp.cell (p := ⟨b, off + i * 6 + 1, none⟩) hbl id).trans c1
            have d2 := (hW.kp.cell (p := ⟨b, off + i * 6 + 2, none⟩) hbl id).trans c2
            have d3 := (hW.kp.cell (p := ⟨b, off + i * 6 + 3, none⟩) hbl id).trans c3
            have d4 := (hW.kp.cell (p := ⟨b, off + i * 6 + 4, none⟩) hbl id).trans c4
            have d5 := (hW.kp.cell (p := ⟨b, off + i * 6 + 5, none⟩) hbl id).trans c5
            clear c0 c1 c2 c3 c4 c5 hx
            obtain ⟨C, hC⟩ : ∃ C, wr.heap.size = C := ⟨_, rfl⟩
            have hks : key.size ≤ maxLen := by unfold maxLen; omega
            have hWa : OncW w (wr.alloc (.cells #[.int .u8 act, .string key, .string who, .int .i64 time, .int .i64 lease, .int .i64 n] 74)) p kb S q kf hs kn u10 i := hW.keep ((Keeps.refl _ _).alloc _)
            have hup := hOnce.up
            have hrd : OnceQ q kf hs i := hOnce
            have hi80 : i + 1 ≤ 81 := by omega
            have htm := i64_of_wf g3
            have htl := i64_of_wf g4
            have htn := i64_of_wf g5
            have hwb := hOnce.big
            by_cases a0 : act = 0
            · as_aux_lemma =>
              subst a0
              have hlk := hWa.look hks true
              cases hkf : kf key with
              | some m =>
                rw [hkf] at hlk
                simp only [Option.map_some, Option.getD_some, if_true, Option.isSome_some] at hlk
                have hX := hWa.up (Nat.le_succ i)
                go_wp2_with fail
                refine (stand_c (hX).hq hup (by omega) (by have := (hX).kl; omega) (hX).mp (hX).rh (fun Wt kt => outs_of ((hX).hq.keep kt (fun _ _ z => z)) hup (by omega))).mono ?_
                rintro e w9 ⟨rfl, k9⟩
                have hX9 := (hX).keep k9
                clear hOnce hW hWa
                go_wp2_with fail
                go_roundw
                case rel => exact ⟨i + 1, _, q, kf, hs, _, la, rfl, by go_num, by omega, by first | exact hla | (simp only [QS.hand]; omega), hup, hX9⟩
                case measure => simp [intOf]; omega
              | none =>
                rw [hkf] at hlk
                simp only [Option.map_none, Option.getD_none, if_true, Option.isSome_none] at hlk
                have hth := hOnce.th key hkf
                by_cases hfull : q.most ≤ q.waits.length
                · have hput := qputFull_o hWa.hq key who time hks hth hfull
                  go_wp2_with fail
                  refine hput.mono ?_
                  rintro e w3 ⟨rfl, k3⟩
                  have hX := (hWa.keep k3).up (Nat.le_succ i)
                  clear hput hlk
                  go_wp2_with fail
                  refine (stand_c (hX).hq hup (by omega) (by have := (hX).kl; omega) (hX).mp (hX).rh (fun Wt kt => outs_of ((hX).hq.keep kt (fun _ _ z => z)) hup (by omega))).mono ?_
                  rintro e w9 ⟨rfl, k9⟩
                  have hX9 := (hX).keep k9
                  clear hOnce hW hWa
                  go_wp2_with fail
                  go_roundw
                  case rel => exact ⟨i + 1, _, q, kf, hs, _, la, rfl, by go_num, by omega, by first | exact hla | (simp only [QS.hand]; omega), hup, hX9⟩
                  case measure => simp [intOf]; omega
                · have hput := qputOk_o hWa.hq key who time hks htm hth hfull (by omega)
                  have hO2 := hOnce.put (who := who) (time := time) hkf hxz.1
                  go_wp2_with fail
                  refine hput.mono ?_
                  rintro e w3 ⟨rfl, S3, h3, m3⟩
                  have hX3 := hWa.move m3 h3
                  obtain ⟨o, kn', hst, hX⟩ := hX3.store hks 0
                  have hb3 : w3.heap[C]? = some (.cells #[.int .u8 0, .string key, .string who, .int .i64 time, .int .i64 lease, .int .i64 n] 74 (0, 0)) := by
                    rw [m3.keeps.block C (by simp [← hC]) (fun hz => by have := hW.hq.lt C hz; omega), ← hC]
                    exact heap_alloc_new _ _
                  have y1 : w3.cell? ⟨C, 1, none⟩ = some (.string key) := by rw [cell_of_row _ _ _ _ _ _ hb3]; rfl
                  clear hput hlk hX3 hb3 m3 h3
                  go_wp2_with fail
                  refine (stand_c (hX).hq hO2 (by omega) (by have := (hX).kl; omega) (hX).mp (hX).rh (fun Wt kt => outs_of ((hX).hq.keep kt (fun _ _ z => z)) hO2 (by omega))).mono ?_
                  rintro e w9 ⟨rfl, k9⟩
                  have hX9 := (hX).keep k9
                  clear hOnce hW hWa
                  go_wp2_with fail
                  go_roundw
                  case rel => exact ⟨i + 1, _, _, _, hs, _, la, rfl, by go_num, by omega, by first | exact hla | (simp only [QS.hand]; omega), hO2, hX9⟩
                  case measure => simp [intOf]; omega
            by_cases a1 : act = 1
            · as_aux_lemma =>
              subst a1
              by_cases hl1 : lease < 1
              · have hpo := qpollBad_o hWa.hq who time lease hl1
                go_wp2_with fail
                refine hpo.mono ?_
                rintro e w3 ⟨rfl, k3⟩
                have hX := (hWa.keep k3).up (Nat.le_succ i)
                clear hpo
                go_wp2_with fail
                go_roundw
                case rel => exact ⟨i + 1, _, _, _, _, _, la, rfl, by go_num, by omega, hla, hup, hX⟩
                case measure => simp [intOf]; omega
              · rcases idxI_cases (fun t => forB q.grace t who time) q.waits with hi | ⟨k, t, hi, hti⟩
                · have hpo := qpollNone_o hWa.hq who time lease (by omega) hi
                  go_wp2_with fail
                  refine hpo.mono ?_
                  rintro e w3 ⟨rfl, k3⟩
                  have hX := (hWa.keep k3).up (Nat.le_succ i)
                  clear hpo hi
                  go_wp2_with fail
                  go_roundw
                  case rel => exact ⟨i + 1, _, _, _, _, _, la, rfl, by go_num, by omega, hla, hup, hX⟩
                  case measure => simp [intOf]; omega
                · obtain ⟨hkt, hat⟩ := hOnce.wk t (List.mem_of_getElem? hti)
                  have hat0 := (hOnce.lv _ _ hkt).1
                  have hnx := hOnce.nx
                  have hpo := qpollHit_o hWa.hq who time lease (by omega) htl.2 htm k t hti hi (by omega) (by omega)
                  have hO2 := hOnce.poll hti who (addI time lease)
                  have hkz : t.key.size ≤ maxLen := by
                    have := hOnce.ksz _ (by rw [hkt]; exact fun x => by cases x)
                    unfold maxLen; omega
                  go_wp2_with fail
                  refine hpo.mono ?_
                  rintro e w3 ⟨rfl, S3, h3, m3⟩
                  have hX3 := hWa.move m3 h3
                  have hlk := hX3.look hkz true
                  rw [hkt] at hlk
                  simp only [Option.map_some, Option.getD_some, if_true, Option.isSome_some] at hlk
                  obtain ⟨o, kn', hst, hX4⟩ := hX3.store hkz (t.att + 1)
                  obtain ⟨tk, htk⟩ : ∃ tk, q.next = tk := ⟨_, rfl⟩
                  obtain ⟨ta, hta⟩ : ∃ ta, t.att = ta := ⟨_, rfl⟩
                  obtain ⟨tkey, htkey⟩ : ∃ tkey, t.key = tkey := ⟨_, rfl⟩
                  rw [hta] at hlk hst hX4 hat hat0 hO2 ⊢
                  rw [htk] at hla hnx hO2 ⊢
                  rw [htkey] at hlk hst hX4 hO2 ⊢
                  have hlatk : ¬ tk ≤ la := by omega
                  have hnx2 : Hid (q.next = tk) := htk
                  have hfewH := hOnce.few
                  obtain ⟨W4, hW4⟩ : ∃ W4, setBlock w3 kb o = W4 := ⟨_, rfl⟩
                  rw [hW4] at hst hX4
                  obtain ⟨ah, chh, hvh⟩ := holdsLen hX4.rh
                  obtain ⟨m, hmh⟩ : ∃ m, hs.length = m := ⟨_, rfl⟩
                  rw [hmh] at hvh hfewH
                  subst hvh
                  obtain ⟨D, hD⟩ : ∃ D, W4.heap.size = D := ⟨_, rfl⟩
                  have hrhl : ∀ b, (Value.slice ah m chh).ownBlock = some b → b < W4.heap.size := fun b hb => (World.ownsRow.lt hX4.rh b hb).2
                  have hrh4 := hX4.rh
                  clear hpo hi hX3 m3 h3 hkt hti hup hWa hW hta htk htkey
                  go_wp2_with (at_builtin; refine wpList_append_lies _ (by rfl) (.tmp 127) (.tmp 131) 72 (by rfl) 0 76 i0 (.agg #[.int .i64 0, .string ⟨#[]⟩]) 2 24 Try.underlying72 hi0 hz0 hz1 hz2 (by rfl) (by decide) (.slice ah m chh) m (hs.flatMap encH) (by rfl) ?hown ⟨D, 0, none⟩ 1 1 (encH (tk, tkey)) (by rfl) (by rfl) ?news ?h1 (by decide) ?b63 ?bby (Nat.zero_le _) (D + 1) (by simp [hD]) ?k)
                  case hown =>
                    have := (hrh4.at_block (fun b hb => Below.heap_alloc W4 (.cells #[.int .i64 tk, .string tkey] 76) b (hrhl b hb)) : RowV _ _ _ _ (.slice ah m chh) hs)
                    unfold RowV at this
                    rw [hmh] at this
                    exact this
                  case news =>
                    refine World.news_of_block (cs := #[.int .i64 tk, .string tkey]) (t := 76) (fr := (0, 0)) ?_
                    rw [← hD]
                    exact (heap_alloc_new _ _).trans (by rfl)
                  case h1 => intro u hu; simp [encH] at hu; rcases hu with rfl | rfl <;> rfl
                  case b63 => unfold maxLen; omega
                  case bby => omega
                  case k =>
                    intro g5 cap5 w5 hown hgrow hat5 hlt5
                    have k5 : Keeps (fun k => (Value.slice ah m chh).ownBlock = some k) W4 w5 := ((Keeps.refl (fun k => (Value.slice ah m chh).ownBlock = some k) W4).alloc _).grown hgrow (fun k e _ => e)
                    have hrow5 : RowV w5 76 2 encH (.slice (some ⟨g5, 0, none⟩) (m + 1) cap5) (hs ++ [(tk, tkey)]) := by
                      unfold RowV
                      rw [List.length_append, hmh, List.flatMap_append]
                      simpa using hown
                    have hX := hX4.held k5 hrow5 (fun b hb => by
                      cases hb
                      rcases hat5 with e | e
                      · exact .inl e
                      · right; show _ ≤ g5; omega)
                    have hla2 : tk < (q.hand k t who (addI time lease)).next := by show tk < q.next + 1; have := hnx2.out; omega
                    clear hown hgrow hat5 hrow5 hrh4 hX4 k5
                    go_wp2_with fail
                    refine (stand_c (hX).hq hO2 (by omega) (by have := (hX).kl; omega) (hX).mp (hX).rh (fun Wt kt => outs_of ((hX).hq.keep kt (fun _ _ z => z)) hO2 (by omega))).mono ?_
                    rintro e w9 ⟨rfl, k9⟩
                    have hX9 := (hX).keep k9
                    clear hOnce
                    go_wp2_with fail
                    go_roundw
                    case rel => exact ⟨i + 1, _, _, _, _, _, tk, rfl, by go_num, by omega, hla2, hO2, hX9⟩
                    case measure => simp [intOf]; omega
            by_cases a3 : act = 3
            · as_aux_lemma =>
              subst a3
              cases hot : q.outs n with
              | none =>
                have hdo := qdoneNo_o hWa.hq n htn hot
                go_wp2_with fail
                refine hdo.mono ?_
                rintro e w3 ⟨rfl, k3⟩
                have hX3 := hWa.keep k3
                have hfewH := hOnce.few
                have hheld := held_c hX3.rh (by omega) n
                have hb3 : w3.heap[C]? = some (.cells #[.int .u8 3, .string key, .string who, .int .i64 time, .int .i64 lease, .int .i64 n] 74 (0, 0)) := by
                  rw [k3.block C (by simp [← hC]) (fun hz => by first | exact hz | (have := hW.hq.lt C hz; omega)), ← hC]
                  exact heap_alloc_new _ _
                have y5 : w3.cell? ⟨C, 5, none⟩ = some (.int .i64 n) := by rw [cell_of_row _ _ _ _ _ _ hb3]; rfl
                clear hb3
                clear hdo
                go_wp2_with fail
                refine hheld.mono ?_
                rintro e w4 ⟨pa, rfl, hp, rfl⟩
                obtain ⟨rfl, _⟩ | ⟨j, hj, x, _, hx, _⟩ := hOnce.place hp
                · have hX := hX3.up (Nat.le_succ i)
                  clear hheld hp
                  go_wp2_with fail
                  refine (stand_c (hX).hq hup (by omega) (by have := (hX).kl; omega) (hX).mp (hX).rh (fun Wt kt => outs_of ((hX).hq.keep kt (fun _ _ z => z)) hup (by omega))).mono ?_
                  rintro e w9 ⟨rfl, k9⟩
                  have hX9 := (hX).keep k9
                  clear hOnce hW hWa
                  go_wp2_with fail
                  go_roundw
                  case rel => exact ⟨i + 1, _, q, kf, hs, _, la, rfl, by go_num, by omega, by first | exact hla | (simp only [QS.hand]; omega), hup, hX9⟩
                  case measure => simp [intOf]; omega
                · rw [hot] at hx; cases hx
              | some x =>
                have hdo := qdoneYes_o hWa.hq n htn x hot
                go_wp2_with fail
                refine hdo.mono ?_
                rintro e w3 ⟨rfl, h3, m3⟩
                have hX3 := hWa.move m3 h3
                have hfewH := hOnce.few
                have hheld := held_c hX3.rh (by omega) n
                have hb3 : w3.heap[C]? = some (.cells #[.int .u8 3, .string key, .string who, .int .i64 time, .int .i64 lease, .int .i64 n] 74 (0, 0)) := by
                  rw [m3.keeps.block C (by simp [← hC]) (fun hz => by first | exact hz | (have := hW.hq.lt C hz; omega)), ← hC]
                  exact heap_alloc_new _ _
                have y5 : w3.cell? ⟨C, 5, none⟩ = some (.int .i64 n) := by rw [cell_of_row _ _ _ _ _ _ hb3]; rfl
                clear hb3
                clear hdo
                go_wp2_with fail
                refine hheld.mono ?_
                rintro e w4 ⟨pa, rfl, hp, rfl⟩
                obtain ⟨_, hx⟩ | ⟨j, hj, x', rfl, hx, he, hkx⟩ := hOnce.place hp
                · rw [hot] at hx; cases hx
                · rw [hot] at hx
                  cases hx
                  have hO2 := hOnce.done hj hot he
                  have hkz : x.t.key.size ≤ maxLen := by
                    have := hOnce.ksz _ (by rw [hkx]; exact fun x => by cases x)
                    unfold maxLen; omega
                  have hat := (hOnce.ok _ _ hot).2.2
                  have hat0 := (hOnce.lv _ _ hkx).1
                  obtain ⟨gh, ch, ehv, _, e0, e1⟩ := holdsAt hX3.rh hj
                  rw [he] at e0 e1
                  have e1' : w3.cell? ⟨gh, j * 2 + 1, none⟩ = some (.string x.t.key) := e1
                  have hlk := hX3.look hkz false
                  rw [hkx] at hlk
                  simp only [Option.map_some, Option.getD_some, Bool.false_eq_true, if_false] at hlk
                  have hfreed := freed_c hX3.rh (by omega) hj
                  obtain ⟨m, hmh⟩ : ∃ m, hs.length = m := ⟨_, rfl⟩
                  rw [hmh] at ehv hfewH
                  rw [ehv] at hfreed
                  have jz : (0 : Int) ≤ j := by omega
                  have jm : (j : Int) < m := by omega
                  have jm2 : j < m := by omega
                  obtain ⟨ta, hta⟩ : ∃ ta, x.t.att = ta := ⟨_, rfl⟩
                  obtain ⟨tkey, htkey⟩ : ∃ tkey, x.t.key = tkey := ⟨_, rfl⟩
                  have hX3' : OncW w w3 p kb S (q.done n x) kf hs kn (.slice (some ⟨gh, 0, none⟩) m ch) i := by rw [← ehv]; exact hX3
                  rw [hta] at hlk hat hat0 hO2 ⊢
                  rw [htkey] at hlk e1' hO2 hkz ⊢
                  subst ehv
                  clear hheld hp e1 e0 he hX3 h3 m3 hup hWa hW
                  go_wp2_with fail
                  refine hfreed.mono ?_
                  intro e w5 hfp
                  obtain ⟨v5, rfl, hrow5, hfr5, k5⟩ := hfp
                  have hX5 := hX3'.held k5.of_none hrow5 (fun b hb => .inr (hfr5 b hb))
                  have hlk5 := hX5.look hkz false
                  rw [← htkey, hkx, htkey, hta] at hlk5
                  simp only [Option.map_some, Option.getD_some, Bool.false_eq_true, if_false] at hlk5
                  obtain ⟨o, kn', hst, hX⟩ := hX5.store hkz (ta + 1000)
                  have hla2 : la < (q.done n x).next := hla
                  clear hfreed hX5 hX3' hlk hrow5 hfr5 k5 e1' hkx hta htkey
                  go_wp2_with fail
                  refine (stand_c (hX).hq hO2 (by omega) (by have := (hX).kl; omega) (hX).mp (hX).rh (fun Wt kt => outs_of ((hX).hq.keep kt (fun _ _ z => z)) hO2 (by omega))).mono ?_
                  rintro e w9 ⟨rfl, k9⟩
                  have hX9 := (hX).keep k9
                  clear hOnce
                  go_wp2_with fail
                  go_roundw
                  case rel => exact ⟨i + 1, _, _, _, _, _, la, rfl, by go_num, by omega, hla2, hO2, hX9⟩
                  case measure => simp [intOf]; omega
            by_cases a4 : act = 4
            · as_aux_lemma =>
              subst a4
              cases hot : q.outs n with
              | none =>
                have hdo := qbackNo_o hWa.hq n time htn hot
                go_wp2_with fail
                refine hdo.mono ?_
                rintro e w3 ⟨rfl, k3⟩
                have hX3 := hWa.keep k3
                have hfewH := hOnce.few
                have hheld := held_c hX3.rh (by omega) n
                have hb3 : w3.heap[C]? = some (.cells #[.int .u8 4, .string key, .string who, .int .i64 time, .int .i64 lease, .int .i64 n] 74 (0, 0)) := by
                  rw [k3.block C (by simp [← hC]) (fun hz => by first | exact hz | (have := hW.hq.lt C hz; omega)), ← hC]
                  exact heap_alloc_new _ _
                have y5 : w3.cell? ⟨C, 5, none⟩ = some (.int .i64 n) := by rw [cell_of_row _ _ _ _ _ _ hb3]; rfl
                clear hb3
                clear hdo
                go_wp2_with fail
                refine hheld.mono ?_
                rintro e w4 ⟨pa, rfl, hp, rfl⟩
                obtain ⟨rfl, _⟩ | ⟨j, hj, x, _, hx, _⟩ := hOnce.place hp
                · have hX := hX3.up (Nat.le_succ i)
                  clear hheld hp
                  go_wp2_with fail
                  refine (stand_c (hX).hq hup (by omega) (by have := (hX).kl; omega) (hX).mp (hX).rh (fun Wt kt => outs_of ((hX).hq.keep kt (fun _ _ z => z)) hup (by omega))).mono ?_
                  rintro e w9 ⟨rfl, k9⟩
                  have hX9 := (hX).keep k9
                  clear hOnce hW hWa
                  go_wp2_with fail
                  go_roundw
                  case rel => exact ⟨i + 1, _, q, kf, hs, _, la, rfl, by go_num, by omega, by first | exact hla | (simp only [QS.hand]; omega), hup, hX9⟩
                  case measure => simp [intOf]; omega
                · rw [hot] at hx; cases hx
              | some x =>
                have hdo := qbackYes_o hWa.hq n time htn htm x hot (by omega)
                go_wp2_with fail
                refine hdo.mono ?_
                rintro e w3 ⟨rfl, S3, h3, m3⟩
                have hX3 := hWa.move m3 h3
                have hfewH := hOnce.few
                have hheld := held_c hX3.rh (by omega) n
                have hb3 : w3.heap[C]? = some (.cells #[.int .u8 4, .string key, .string who, .int .i64 time, .int .i64 lease, .int .i64 n] 74 (0, 0)) := by
                  rw [m3.keeps.block C (by simp [← hC]) (fun hz => by first | exact hz | (have := hW.hq.lt C hz; omega)), ← hC]
                  exact heap_alloc_new _ _
                have y5 : w3.cell? ⟨C, 5, none⟩ = some (.int .i64 n) := by rw [cell_of_row _ _ _ _ _ _ hb3]; rfl
                clear hb3
                clear hdo
                go_wp2_with fail
                refine hheld.mono ?_
                rintro e w4 ⟨pa, rfl, hp, rfl⟩
                obtain ⟨_, hx⟩ | ⟨j, hj, x', rfl, hx, he, hkx⟩ := hOnce.place hp
                · rw [hot] at hx; cases hx
                · rw [hot] at hx
                  cases hx
                  have hO2 := hOnce.back hj hot he time
                  have hkz : x.t.key.size ≤ maxLen := by
                    have := hOnce.ksz _ (by rw [hkx]; exact fun x => by cases x)
                    unfold maxLen; omega
                  have hat := (hOnce.ok _ _ hot).2.2
                  have hat0 := (hOnce.lv _ _ hkx).1
                  obtain ⟨gh, ch, ehv, _, e0, e1⟩ := holdsAt hX3.rh hj
                  rw [he] at e0 e1
                  have e1' : w3.cell? ⟨gh, j * 2 + 1, none⟩ = some (.string x.t.key) := e1
                  have hlk := hX3.look hkz false
                  rw [hkx] at hlk
                  simp only [Option.map_some, Option.getD_some, Bool.false_eq_true, if_false] at hlk
                  have hfreed := freed_c hX3.rh (by omega) hj
                  obtain ⟨m, hmh⟩ : ∃ m, hs.length = m := ⟨_, rfl⟩
                  rw [hmh] at ehv hfewH
                  rw [ehv] at hfreed
                  have jz : (0 : Int) ≤ j := by omega
                  have jm : (j : Int) < m := by omega
                  have jm2 : j < m := by omega
                  obtain ⟨ta, hta⟩ : ∃ ta, x.t.att = ta := ⟨_, rfl⟩
                  obtain ⟨tkey, htkey⟩ : ∃ tkey, x.t.key = tkey := ⟨_, rfl⟩
                  have hX3' : OncW w w3 p kb S3 (q.back n x time) kf hs kn (.slice (some ⟨gh, 0, none⟩) m ch) i := by rw [← ehv]; exact hX3
                  rw [hta] at hlk hat hat0 ⊢
                  rw [htkey] at hlk e1' hkz ⊢
                  subst ehv
                  clear hheld hp e1 e0 he hX3 h3 m3 hup hWa hW
                  go_wp2_with fail
                  refine hfreed.mono ?_
                  intro e w5 hfp
                  obtain ⟨v5, rfl, hrow5, hfr5, k5⟩ := hfp
                  have hX5 := hX3'.held k5.of_none hrow5 (fun b hb => .inr (hfr5 b hb))
                  have hX := hX5.up (Nat.le_succ i)
                  have hla2 : la < (q.back n x time).next := hla
                  clear hfreed hX5 hX3' hlk hrow5 hfr5 k5 e1' hkx hta htkey
                  go_wp2_with fail
                  refine (stand_c (hX).hq hO2 (by omega) (by have := (hX).kl; omega) (hX).mp (hX).rh (fun Wt kt => outs_of ((hX).hq.keep kt (fun _ _ z => z)) hO2 (by omega))).mono ?_
                  rintro e w9 ⟨rfl, k9⟩
                  have hX9 := (hX).keep k9
                  clear hOnce
                  go_wp2_with fail
                  go_roundw
                  case rel => exact ⟨i + 1, _, _, _, _, _, la, rfl, by go_num, by omega, hla2, hO2, hX9⟩
                  case measure => simp [intOf]; omega
            · have hX := hWa.up (Nat.le_succ i)
              go_wp2_with fail
              refine (stand_c (hX).hq hup (by omega) (by have := (hX).kl; omega) (hX).mp (hX).rh (fun Wt kt => outs_of ((hX).hq.keep kt (fun _ _ z => z)) hup (by omega))).mono ?_
              rintro e w9 ⟨rfl, k9⟩
              have hX9 := (hX).keep k9
              clear hOnce hW hWa
              go_wp2_with fail
              go_roundw
              case rel => exact ⟨i + 1, _, q, kf, hs, _, la, rfl, by go_num, by omega, by first | exact hla | (simp only [QS.hand]; omega), hup, hX9⟩
              case measure => simp [intOf]; omega
          · have hie : i = l.length := by omega
            subst hie
            have hkp := hW.kp
            go_wp2_with fail
            go_ret
            exact ⟨rfl, hkp.below (Nat.le_refl _) (fun _ x => x.elim)⟩

end Go.Proofs.Ytofdcmbjcpfabaa
