/- Queues of tasks: slices.Clone, maps.Clone, Twin. -/
import Derived.Test.YtofdcmbjcpfabaaQCalls
import Derived.Shelf.SlMaps.Clone
namespace Go.Proofs.Ytofdcmbjcpfabaa
open Go.RowKit Go.Maps Go.MapKept Go.ChangeMaps
attribute [local go_sem ↓] Go.wp_at_zero Go.wp_at_succ

/-- A copy of the tasks in memory of its own. -/
def CloneT (w : World) (ts : List Task) (e : Ending) (w' : World) : Prop :=
  ∃ a c, e = .returned (.slice a ts.length c) ∧ RowV w' 142 4 encTask (.slice a ts.length c) ts ∧ (∀ b, (Value.slice a ts.length c).ownBlock = some b → w.heap.size ≤ b) ∧ Keeps NoBlk w w'

set_option maxRecDepth 100000 in
set_option maxHeartbeats 4000000 in
theorem cloneTask_c (w : World) (lv : Value) (ts : List Task) (h : RowV w 142 4 encTask lv ts) (hbig : ts.length ≤ 1000000) :
    Calls Try.prog 86 #[lv] w (CloneT w ts) := by
  have hq := fun w a n c => Lib.run_eql_slice_nil (P := Try.prog) w 115 142 a n c 0 0 Try.underlying115
  rcases h.form with ⟨rfl, rfl⟩ | ⟨g, cap, rfl⟩
  · go_enter Try.func86, Try.ntmps86
    go_wp2_with fail
    go_ret
    exact ⟨none, 0, rfl, RowV.nil _ _ _ _, (fun b hb => by cases hb), Keeps.refl _ _⟩
  · obtain ⟨n, hn⟩ : ∃ n, ts.length = n := ⟨_, rfl⟩
    obtain ⟨B, hB⟩ : ∃ B, w.heap.size = B := ⟨_, rfl⟩
    have hg := (World.ownsRow.lt h g rfl).2
    rcases Nat.eq_zero_or_pos n with rfl | hpos
    · have e0 : ts = [] := List.length_eq_zero_iff.1 hn
      subst e0
      rw [show ([] : List Task).length = 0 from rfl]
      go_enter Try.func86, Try.ntmps86
      go_wp2
      go_ret
      refine ⟨some ⟨B, 0, none⟩, 0, rfl, ?_, (fun b hb => by cases hb; show w.heap.size ≤ B; omega), (Keeps.refl _ _).alloc _⟩
      exact ⟨rfl, .inr ⟨B, 0, #[], rfl, Nat.zero_le _, by subst hB; exact heap_alloc_new _ _, Nat.le_refl _, Nat.zero_le _, rfl, rfl⟩⟩
    · rw [hn]
      obtain ⟨i0, hi, hz0, hz1, hz2⟩ := info_parts infoTask
      have hr : RowAt w 142 4 encTask g cap ts := h
      have hnews : ∀ j u, (ts.flatMap encTask)[j]? = some u → (w.alloc (.cells #[] 142)).cell? ((⟨g, 0, none⟩ : Addr).add j) = some u := fun j u hu => by
        have hj : j < ts.length * 4 := by
          have := (List.getElem?_eq_some_iff.1 hu).1
          rwa [flat_length encTask 4 encTask_len] at this
        rw [Addr.add_lit, Nat.zero_add, ((Keeps.refl NoBlk w).alloc _).cell (p := ⟨g, j, none⟩) hg id, World.ownsRow.cellAt h j hj]
        exact hu
      have h1A : ∀ u ∈ ts.flatMap encTask, u.oneCell' = true := fun u hu => by
        obtain ⟨x, _, hx⟩ := List.mem_flatMap.1 hu
        simp [encTask] at hx; rcases hx with rfl | rfl | rfl | rfl <;> rfl
      have hown : (w.alloc (.cells #[] 142)).ownsRow 0 142 4 (.slice (some ⟨B, 0, none⟩) 0 0) 0 [] :=
        ⟨rfl, .inr ⟨B, 0, #[], rfl, Nat.zero_le _, by subst hB; exact heap_alloc_new _ _, Nat.le_refl _, Nat.zero_le _, rfl, rfl⟩⟩
      have hlen : (ts.flatMap encTask).length = n * 4 := by rw [flat_length encTask 4 encTask_len, hn]
      go_enter Try.func86, Try.ntmps86
      go_wp2_with (at_builtin; refine wpList_append_lies _ (by rfl) (.tmp 5) (.tmp 6) 115 (by rfl) 0 142 i0 (.agg #[.string ⟨#[]⟩, .string ⟨#[]⟩, .int .i64 0, .int .i64 0]) 4 48 Try.underlying115 hi hz0 hz1 hz2 (by rfl) (by decide) (.slice (some ⟨B, 0, none⟩) 0 0) 0 [] (by rfl) hown ⟨g, 0, none⟩ n cap (ts.flatMap encTask) (by rfl) hlen hnews h1A hpos (by unfold maxLen; omega) (by omega) (Nat.zero_le _) (B + 1) (by simp [hB]) ?k)
      case k =>
        intro g' cap' w2 hown2 hgrow hat hlt
        have k2 : Keeps NoBlk w w2 := ((Keeps.refl NoBlk w).alloc _).grown hgrow (fun k e hk => by cases e; have h2 : B < w.heap.size := hk; omega)
        have hg' : w.heap.size ≤ g' := by
          rcases hat with e | e
          · cases e; show w.heap.size ≤ B; omega
          · omega
        have hr2 : RowV w2 142 4 encTask (.slice (some ⟨g', 0, none⟩) n cap') ts := by
          unfold RowV
          rw [hn]
          simpa using hown2
        clear hown2 hgrow hat hown hnews h1A
        go_wp2_with fail
        go_ret
        subst hn
        exact ⟨some ⟨g', 0, none⟩, cap', rfl, hr2, (fun b hb => by cases hb; exact hg'), k2⟩

set_option maxRecDepth 100000 in
set_option maxHeartbeats 2000000 in
/-- A copy of a map's block. -/
theorem cloneMapO_c (w : World) (b : Nat) (es : Array MapEntry) (clock : Nat) (hb : w.heap[b]? = some (.map es clock)) :
    Calls Try.prog 87 #[.map (some b)] w fun e w' => e = .returned (.map (some w.heap.size)) ∧ Hid (w' = w.alloc (.map es clock)) := by
  have hq := fun w => run_eql_map_nil_sl (P := Try.prog) w 116 _ _ (some b) Try.underlying116
  go_enter Try.func87, Try.ntmps87
  go_wp2
  rw [run_callFunc_extern Try.func136 (by kernel_rfl) (by kernel_rfl) (by kernel_rfl) (e := Extern.MapsClone.clone) (by kernel_rfl), run_maps_clone_sl w 116 hb]
  simp only [Result.andThen]
  rw [Oper.upon_value]
  go_wp2
  rw [run_typeAssert_map_sl _ 116 20 _ _ _ Try.underlying116]
  simp only [Result.andThen]
  rw [Oper.upon_value]
  go_wp2
  go_ret
  exact ⟨rfl, rfl⟩

set_option maxRecDepth 100000 in
set_option maxHeartbeats 2000000 in
/-- A copy of a map's block. -/
theorem cloneMapT_c (w : World) (b : Nat) (es : Array MapEntry) (clock : Nat) (hb : w.heap[b]? = some (.map es clock)) :
    Calls Try.prog 88 #[.map (some b)] w fun e w' => e = .returned (.map (some w.heap.size)) ∧ Hid (w' = w.alloc (.map es clock)) := by
  have hq := fun w => run_eql_map_nil_sl (P := Try.prog) w 71 _ _ (some b) Try.underlying71
  go_enter Try.func88, Try.ntmps88
  go_wp2
  rw [run_callFunc_extern Try.func136 (by kernel_rfl) (by kernel_rfl) (by kernel_rfl) (e := Extern.MapsClone.clone) (by kernel_rfl), run_maps_clone_sl w 71 hb]
  simp only [Result.andThen]
  rw [Oper.upon_value]
  go_wp2
  rw [run_typeAssert_map_sl _ 71 20 _ _ _ Try.underlying71]
  simp only [Result.andThen]
  rw [Oper.upon_value]
  go_wp2
  go_ret
  exact ⟨rfl, rfl⟩

/-- From w on, the first n blocks are as they were but for C. -/
def SameBut (C n : Nat) (w w' : World) : Prop := ∀ k, k < n → k ≠ C → w'.heap[k]? = w.heap[k]?
theorem SameBut.keeps {C n : Nat} {w w1 w2 : World} (h : SameBut C n w w1) (hk : Keeps NoBlk w1 w2) (hn : n ≤ w1.heap.size) : SameBut C n w w2 := fun k h1 h2 => (hk.block k (by omega) id).trans (h k h1 h2)
theorem SameBut.set {C n : Nat} {w w1 : World} (h : SameBut C n w w1) (o : Nat) (v : Value) : SameBut C n w (w1.setCell ⟨C, o, none⟩ v) := fun k h1 h2 => (Below.heap_setCell _ _ _ _ h2).trans (h k h1 h2)
theorem SameBut.refl (C n : Nat) (w : World) : SameBut C n w w := fun _ _ _ => rfl

theorem MapFn.copy {κ ν : Type} {w : World} {P : Program} {kt : TypeId} {ek : κ → Value} {ev : ν → Value} {b n : Nat} {f : κ → Option ν} (h : MapFn w P kt ek ev b n f) :
    ∃ es clock, w.heap[b]? = some (.map es clock) ∧ ∀ (w' : World) (b' : Nat), w'.heap[b']? = some (.map es clock) → MapFn w' P kt ek ev b' n f := by
  obtain ⟨es, clock, h1, h2⟩ := h
  exact ⟨es, clock, h1, fun w' b' hb => ⟨es, clock, hb, h2⟩⟩

/-- Another queue. -/
def TwinQ (w : World) (q : QS) (e : Ending) (w' : World) : Prop :=
  ∃ p lv mo mt, e = .returned (.pointer (some ⟨p, 0, none⟩)) ∧ QRaw w' p lv mo mt q ∧ (∀ k, QFoot p lv mo mt k → w.heap.size ≤ k) ∧ Keeps NoBlk w w'

set_option maxRecDepth 100000 in
set_option maxHeartbeats 4000000 in
theorem twin_c (w : World) (p mo mt : Nat) (lv : Value) (q : QS) (h : QRaw w p lv mo mt q) (hn : 0 < q.next) (hbig : q.waits.length ≤ 1000000) :
    Calls Try.prog 25 #[.pointer (some ⟨p, 0, none⟩)] w (TwinQ w q) := by
  have hm := qmade_c w p mo mt lv q h hn
  obtain ⟨la, lc, rfl⟩ := h.len
  obtain ⟨c0, c1, c2, c3, c4, c5⟩ := h.fields
  obtain ⟨B, hB⟩ : ∃ B, w.heap.size = B := ⟨_, rfl⟩
  have hpl := h.lt.1
  have hml := h.lt.2.2.1
  have htl := h.lt.2.2.2
  go_enter Try.func25, Try.ntmps25
  go_wp2_with fail
  refine hm.mono ?_
  rintro e w1 ⟨rfl, rfl⟩
  go_wp2_with fail
  refine name_world ?_
  intro w1 hw1
  have k1 : Keeps NoBlk w w1 := by subst hw1; exact (Keeps.refl _ _).alloc _
  have h1 := h.keep0 k1
  have hC : w1.heap[B]? = some (.cells #[.int .i64 q.most, .int .i64 q.grace, .int .i64 q.next, .slice la q.waits.length lc, .map (some mo), .map (some mt)] 118 (0, 0)) := by subst hw1 hB; exact heap_alloc_new _ _
  have hs1 : w1.heap.size = B + 1 := by subst hw1 hB; simp
  obtain ⟨_, _, _, d3, d4, d5⟩ := h1.fields
  clear hw1
  have hcl : ∀ W : World, Keeps NoBlk w1 W → Calls Try.prog 86 #[.slice la q.waits.length lc] W (CloneT W q.waits) := fun W hk => cloneTask_c W _ q.waits (h1.keep0 hk).hl hbig
  obtain ⟨no, hmo⟩ := h1.ho
  obtain ⟨eo, co, ho1, ho2⟩ := hmo.copy
  obtain ⟨nt, hmt⟩ := h1.ht
  obtain ⟨et, ct, ht1, ht2⟩ := hmt.copy
  have hpB : p ≠ B := by omega
  have keepS : ∀ w' : World, SameBut B (B + 1) w1 w' → w'.cell? ⟨p, 3, none⟩ = some (.slice la q.waits.length lc) ∧ w'.cell? ⟨p, 4, none⟩ = some (.map (some mo)) ∧ w'.cell? ⟨p, 5, none⟩ = some (.map (some mt)) := fun w' e =>
    ⟨(World.cell?_of_block (a := ⟨p, 3, none⟩) (e p (by omega) hpB)).trans d3, (World.cell?_of_block (a := ⟨p, 4, none⟩) (e p (by omega) hpB)).trans d4, (World.cell?_of_block (a := ⟨p, 5, none⟩) (e p (by omega) hpB)).trans d5⟩
  have S0 : SameBut B (B + 1) w1 w1.drew := fun _ _ _ => rfl
  have hBf : ∀ W : World, (∀ k, k < B + 1 → W.heap[k]? = w1.heap[k]?) → W.frozen? ⟨B, 3, none⟩ = false ∧ W.frozen? ⟨B, 4, none⟩ = false ∧ W.frozen? ⟨B, 5, none⟩ = false ∧ (W.cell? ⟨B, 3, none⟩).isSome = true := fun W e => by
    have hb := (e B (by omega)).trans hC
    exact ⟨frozen_of_row _ _ _ _ _ hb, frozen_of_row _ _ _ _ _ hb, frozen_of_row _ _ _ _ _ hb, by rw [cell_of_row _ _ _ _ _ _ hb]; rfl⟩
  have hBc : ∀ W : World, (∀ k, k < B + 1 → W.heap[k]? = w1.heap[k]?) → W.cell? ⟨B, 3, none⟩ = some (.slice la q.waits.length lc) ∧ W.cell? ⟨B, 4, none⟩ = some (.map (some mo)) ∧ W.cell? ⟨B, 5, none⟩ = some (.map (some mt)) := fun W e => by
    have hb := (e B (by omega)).trans hC
    refine ⟨?_, ?_, ?_⟩ <;> (rw [cell_of_row _ _ _ _ _ _ hb]; rfl)
  have hk1d : Keeps NoBlk w1 w1.drew := (Keeps.refl _ _).drew
  have hmo9 : mo < B + 1 := by omega
  have hmt9 : mt < B + 1 := by omega
  have hmo8 : mo ≠ B := by omega
  have hmt8 : mt ≠ B := by omega
  go_region_held3 (fun w' => w'.cell? ⟨p, 3, none⟩ = some (.slice la q.waits.length lc) ∧ w'.cell? ⟨p, 4, none⟩ = some (.map (some mo)) ∧ w'.cell? ⟨p, 5, none⟩ = some (.map (some mt))) (first | with_reducible exact keepS _ S0 | with_reducible exact keepS _ S1 | with_reducible exact keepS _ S2 | with_reducible exact keepS _ S3 | with_reducible exact keepS _ (S3.set _ _) | with_reducible exact keepS _ ((S3.set _ _).set _ _) | with_reducible exact keepS _ (((S3.set _ _).set _ _).set _ _)) (first
    | (go_at_call 86; (with_reducible refine (hcl w1.drew hk1d).mono ?_); rintro e wa ⟨la', lc', rfl, hrow, hown, ka⟩; have S1 : SameBut B (B + 1) w1 wa := S0.keeps ka (by show B + 1 ≤ w1.heap.size; omega))
    | (go_at_call 87; have hmo1 := (S1 mo hmo9 hmo8).trans ho1; (with_reducible refine (cloneMapO_c _ mo eo co hmo1).mono ?_); rintro e wb ⟨rfl, hwb⟩; have kb : Keeps NoBlk wa wb := by { rw [hwb.out]; exact (Keeps.refl _ _).alloc _ }; have S2 : SameBut B (B + 1) w1 wb := S1.keeps kb (by have := ka.size; show B + 1 ≤ _; exact Nat.le_trans (by show B + 1 ≤ w1.heap.size; omega) this))
    | (go_at_call 88; have hmt1 := (S2 mt hmt9 hmt8).trans ht1; (with_reducible refine (cloneMapT_c _ mt et ct hmt1).mono ?_); rintro e wc ⟨rfl, hwc⟩; have kc : Keeps NoBlk wb wc := by { rw [hwc.out]; exact (Keeps.refl _ _).alloc _ }; have S3 : SameBut B (B + 1) w1 wc := S2.keeps kc (by have := ka.size; have := kb.size; have h9 : B + 1 ≤ w1.drew.heap.size := (by show B + 1 ≤ w1.heap.size; omega); omega); obtain ⟨f3, f4, f5, f6⟩ := hBf wc (fun k hk => by { have h9 : B + 1 ≤ w1.drew.heap.size := (by show B + 1 ≤ w1.heap.size; omega); have h10 := ka.size; have h11 := kb.size; rw [kc.block k (by omega) id, kb.block k (by omega) id, ka.block k (by omega) id]; rfl }); have hCc := hBc wc (fun k hk => by { have h9 : B + 1 ≤ w1.drew.heap.size := (by show B + 1 ≤ w1.heap.size; omega); have h10 := ka.size; have h11 := kb.size; rw [kc.block k (by omega) id, kb.block k (by omega) id, ka.block k (by omega) id]; rfl }); obtain ⟨f7, f8, f9⟩ := hCc))
  have hsa : B + 1 ≤ wa.heap.size := Nat.le_trans (by show B + 1 ≤ w1.heap.size; omega) ka.size
  have hsb : wb.heap.size = wa.heap.size + 1 := by rw [hwb.out]; simp
  have kabc : Keeps NoBlk w wc := ((k1.drew.trans ka (fun _ _ x => x)).trans kb (fun _ _ x => x)).trans kc (fun _ _ x => x)
  have hwc1 : wc.heap[B]? = some (.cells #[.int .i64 q.most, .int .i64 q.grace, .int .i64 q.next, .slice la q.waits.length lc, .map (some mo), .map (some mt)] 118 (0, 0)) := by
    rw [kc.block B (by omega) id, kb.block B (by omega) id, ka.block B (by show B < w1.heap.size; omega) id]; exact hC
  have hmb : wc.heap[wa.heap.size]? = some (.map eo co) := by
    rw [kc.block _ (by omega) id, hwb.out]; exact (heap_alloc _ _).1
  have hmc : wc.heap[wb.heap.size]? = some (.map et ct) := by rw [hwc.out]; exact (heap_alloc _ _).1
  have hrc : RowV wc 142 4 encTask (.slice la' q.waits.length lc') q.waits := hrow.at_block (fun b hb => by
    have := (World.ownsRow.lt hrow b hb).2
    rw [kc.block b (by omega) id, kb.block b this id])
  generalize hwd : ((wc.setCell ⟨B, 3, none⟩ (.slice la' q.waits.length lc')).setCell ⟨B, 4, none⟩ (.map (some wa.heap.size))).setCell ⟨B, 5, none⟩ (.map (some wb.heap.size)) = wd
  have bd : ∀ k, k ≠ B → wd.heap[k]? = wc.heap[k]? := fun k hk => by
    subst hwd
    rw [Below.heap_setCell _ _ _ _ hk, Below.heap_setCell _ _ _ _ hk, Below.heap_setCell _ _ _ _ hk]
  have kd : Keeps NoBlk w wd := by
    subst hwd
    have hn : B < w.heap.size → NoBlk B := fun x => absurd x (by omega)
    exact ((kabc.setCell (p := ⟨B, 3, none⟩) hn _).setCell (p := ⟨B, 4, none⟩) hn _).setCell (p := ⟨B, 5, none⟩) hn _
  have hd : QRaw wd B (.slice la' q.waits.length lc') wa.heap.size wb.heap.size q := by
    refine ⟨?_, hrc.at_block (fun b hb => bd b ?_), ⟨no, ho2 _ _ ((bd _ (by omega)).trans hmb)⟩, ⟨nt, ht2 _ _ ((bd _ (by omega)).trans hmc)⟩, by omega⟩
    · subst hwd
      rw [heap_setCell_same _ _ _ _ _ _ (heap_setCell_same _ _ _ _ _ _ (heap_setCell_same _ _ _ _ _ _ hwc1)), ]; rfl
    · have : w1.heap.size ≤ b := hown b hb
      omega
  have hfoot : ∀ k, QFoot B (.slice la' q.waits.length lc') wa.heap.size wb.heap.size k → w.heap.size ≤ k := fun k hk => by
    rcases hk with rfl | rfl | rfl | hk
    · omega
    · omega
    · omega
    · have : w1.heap.size ≤ k := hown k hk
      omega
  clear hwd f3 f4 f5 f6 f7 f8 f9 keepS hBf hBc hcl
  go_wp2_with fail
  go_ret
  exact ⟨B, _, _, _, rfl, hd, hfoot, kd⟩

end Go.Proofs.Ytofdcmbjcpfabaa
