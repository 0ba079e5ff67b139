/- A heap's copy. -/
import Derived.Test.YtofdcmbjcpfabaaLaw03a
import Derived.Shelf.SlMaps.Clone
import Derived.Lib.SliceRun
import Derived.Deep.RegionHeld3
import Derived.Deep.RegionLaw
namespace Go.Proofs.Ytofdcmbjcpfabaa
open Go.RowKit Go.Maps Go.MapKept Go.ChangeMaps
attribute [local go_sem ↓] Go.wp_at_zero Go.wp_at_succ

/-- A copy of the tasks in memory of its own. -/
def CloneI (w : World) (ts : List (Thing Int)) (e : Ending) (w' : World) : Prop :=
  ∃ a c, e = .returned (.slice a ts.length c) ∧ RowV w' 161 3 encI (.slice a ts.length c) ts ∧ (∀ b, (Value.slice a ts.length c).ownBlock = some b → w.heap.size ≤ b) ∧ Keeps NoBlk w w'

set_option maxRecDepth 100000 in
set_option maxHeartbeats 4000000 in
theorem cloneThing_c (w : World) (lv : Value) (ts : List (Thing Int)) (h : RowV w 161 3 encI lv ts) (hbig : ts.length ≤ 1000000) :
    Calls Try.prog 108 #[lv] w (CloneI w ts) := by
  have hq := fun w a n c => Lib.run_eql_slice_nil (P := Try.prog) w 99 161 a n c 0 0 Try.underlying99
  rcases h.form with ⟨rfl, rfl⟩ | ⟨g, cap, rfl⟩
  · go_enter Try.func108, Try.ntmps108
    go_wp2_with fail
    go_ret
    exact ⟨none, 0, rfl, RowV.nil _ _ _ _, (fun b hb => by cases hb), Keeps.refl _ _⟩
  · obtain ⟨n, hn⟩ : ∃ n, ts.length = n := ⟨_, rfl⟩
    obtain ⟨B, hB⟩ : ∃ B, w.heap.size = B := ⟨_, rfl⟩
    have hg := (World.ownsRow.lt h g rfl).2
    rcases Nat.eq_zero_or_pos n with rfl | hpos
    · have e0 : ts = [] := List.length_eq_zero_iff.1 hn
      subst e0
      rw [show ([] : List (Thing Int)).length = 0 from rfl]
      go_enter Try.func108, Try.ntmps108
      go_wp2
      go_ret
      refine ⟨some ⟨B, 0, none⟩, 0, rfl, ?_, (fun b hb => by cases hb; show w.heap.size ≤ B; omega), (Keeps.refl _ _).alloc _⟩
      exact ⟨rfl, .inr ⟨B, 0, #[], rfl, Nat.zero_le _, by subst hB; exact heap_alloc_new _ _, Nat.le_refl _, Nat.zero_le _, rfl, rfl⟩⟩
    · rw [hn]
      obtain ⟨i0, hi, hz0, hz1, hz2⟩ := info_parts infoThingI
      have hr : RowAt w 161 3 encI g cap ts := h
      have hnews : ∀ j u, (ts.flatMap encI)[j]? = some u → (w.alloc (.cells #[] 161)).cell? ((⟨g, 0, none⟩ : Addr).add j) = some u := fun j u hu => by
        have hj : j < ts.length * 3 := by
          have := (List.getElem?_eq_some_iff.1 hu).1
          rwa [flat_length encI 3 encI_len] at this
        rw [Addr.add_lit, Nat.zero_add, ((Keeps.refl NoBlk w).alloc _).cell (p := ⟨g, j, none⟩) hg id, World.ownsRow.cellAt h j hj]
        exact hu
      have h1A : ∀ u ∈ ts.flatMap encI, u.oneCell' = true := fun u hu => by
        obtain ⟨x, _, hx⟩ := List.mem_flatMap.1 hu
        simp [encI] at hx; rcases hx with rfl | rfl | rfl <;> rfl
      have hown : (w.alloc (.cells #[] 161)).ownsRow 0 161 3 (.slice (some ⟨B, 0, none⟩) 0 0) 0 [] :=
        ⟨rfl, .inr ⟨B, 0, #[], rfl, Nat.zero_le _, by subst hB; exact heap_alloc_new _ _, Nat.le_refl _, Nat.zero_le _, rfl, rfl⟩⟩
      have hlen : (ts.flatMap encI).length = n * 3 := by rw [flat_length encI 3 encI_len, hn]
      go_enter Try.func108, Try.ntmps108
      go_wp2_with (at_builtin; refine wpList_append_lies _ (by rfl) (.tmp 5) (.tmp 6) 99 (by rfl) 0 161 i0 (.agg #[.int .i64 0, .int .i64 0, .int .i64 0]) 3 24 Try.underlying99 hi hz0 hz1 hz2 (by rfl) (by decide) (.slice (some ⟨B, 0, none⟩) 0 0) 0 [] (by rfl) hown ⟨g, 0, none⟩ n cap (ts.flatMap encI) (by rfl) hlen hnews h1A hpos (by unfold maxLen; omega) (by omega) (Nat.zero_le _) (B + 1) (by simp [hB]) ?k)
      case k =>
        intro g' cap' w2 hown2 hgrow hat hlt
        have k2 : Keeps NoBlk w w2 := ((Keeps.refl NoBlk w).alloc _).grown hgrow (fun k e hk => by cases e; have h2 : B < w.heap.size := hk; omega)
        have hg' : w.heap.size ≤ g' := by
          rcases hat with e | e
          · cases e; show w.heap.size ≤ B; omega
          · omega
        have hr2 : RowV w2 161 3 encI (.slice (some ⟨g', 0, none⟩) n cap') ts := by
          unfold RowV
          rw [hn]
          simpa using hown2
        clear hown2 hgrow hat hown hnews h1A
        go_wp2_with fail
        go_ret
        subst hn
        exact ⟨some ⟨g', 0, none⟩, cap', rfl, hr2, (fun b hb => by cases hb; exact hg'), k2⟩

set_option maxRecDepth 100000 in
set_option maxHeartbeats 2000000 in
/-- A copy of a map's block. -/
theorem cloneMapI_c (w : World) (b : Nat) (es : Array MapEntry) (clock : Nat) (hb : w.heap[b]? = some (.map es clock)) :
    Calls Try.prog 109 #[.map (some b)] w fun e w' => e = .returned (.map (some w.heap.size)) ∧ Hid (w' = w.alloc (.map es clock)) := by
  have hq := fun w => run_eql_map_nil_sl (P := Try.prog) w 100 _ _ (some b) Try.underlying100
  go_enter Try.func109, Try.ntmps109
  go_wp2
  rw [run_callFunc_extern Try.func136 (by kernel_rfl) (by kernel_rfl) (by kernel_rfl) (e := Extern.MapsClone.clone) (by kernel_rfl), run_maps_clone_sl w 100 hb]
  simp only [Result.andThen]
  rw [Oper.upon_value]
  go_wp2
  rw [run_typeAssert_map_sl _ 100 20 _ _ _ Try.underlying100]
  simp only [Result.andThen]
  rw [Oper.upon_value]
  go_wp2
  go_ret
  exact ⟨rfl, rfl⟩

/-- What Copy makes. -/
def CopyI (w : World) (L : List (Thing Int)) (next : Int) (e : Ending) (w' : World) : Prop :=
  ∃ p' S', e = .returned (.pointer (some ⟨p', 0, none⟩)) ∧ IsHeapI w' p' S' L next ∧ (∀ k, S' k → w.heap.size ≤ k) ∧ Keeps NoBlk w w'

set_option maxRecDepth 100000 in
set_option maxHeartbeats 4000000 in
theorem copyI_o {w : World} {p : Nat} {S : Nat → Prop} {L : List (Thing Int)} {next : Int} (h : IsHeapI w p S L next) (hbig : L.length ≤ 1000000) :
    Calls Try.prog 56 #[.pointer (some ⟨p, 0, none⟩)] w (CopyI w L next) := by
  obtain ⟨lv, mb, s, hm, h1, h2, h3, h4, h5, h6, _⟩ := h
  have hsl : s.a.length ≤ 1000000 := by rw [h2.length_eq]; exact hbig
  obtain ⟨c0, c1, c2, c3⟩ := hm.fields
  have hpl := hm.lt.1
  have hmbl := hm.lt.2.2
  obtain ⟨n, hmap⟩ := hm.hm
  obtain ⟨es, clock, ho1, hst⟩ : ∃ es clock, w.heap[mb]? = some (.map es clock) ∧ ∀ (w' : World) (b' : Nat), w'.heap[b']? = some (.map es clock) → MapFn w' Try.prog 3 (Value.int .i64) (Value.int .i64) b' n s.m := by
    obtain ⟨es, clock, q1, q2⟩ := hmap
    exact ⟨es, clock, q1, fun w' b' hb => ⟨es, clock, hb, q2⟩⟩
  have hcl : ∀ W : World, Keeps NoBlk w W → Calls Try.prog 108 #[lv] W (CloneI W s.a) := fun W hk => cloneThing_c W _ s.a (hm.hg.at_block (fun b hb => hk.block b (World.ownsRow.lt hm.hg b hb).2 id)) hsl
  have keepS : ∀ w' : World, Keeps NoBlk w w' → w'.cell? ⟨p, 1, none⟩ = some lv ∧ w'.cell? ⟨p, 2, none⟩ = some (.map (some mb)) ∧ w'.cell? ⟨p, 3, none⟩ = some (.int .i64 next) := fun w' hk =>
    ⟨(hk.cell (p := ⟨p, 1, none⟩) hpl id).trans c1, (hk.cell (p := ⟨p, 2, none⟩) hpl id).trans c2, (hk.cell (p := ⟨p, 3, none⟩) hpl id).trans c3⟩
  have S0 : Keeps NoBlk w w.drew := (Keeps.refl _ _).drew
  have hfin : ∀ (wa wb W : World) (la : Option Addr) (lc : Nat), Keeps NoBlk w wa → RowV wa 161 3 encI (.slice la s.a.length lc) s.a → (∀ b, (Value.slice la s.a.length lc).ownBlock = some b → w.heap.size ≤ b) → wb = wa.alloc (.map es clock) → Keeps NoBlk (wb.alloc (.cells #[.bool true, .slice la s.a.length lc, .map (some wa.heap.size), .int .i64 next] 102)) W → CopyI w L next (.returned (.pointer (some ⟨wb.heap.size, 0, none⟩))) W := fun wa wb W la lc hk hrow hfr hwb hkW => by
    have kab : Keeps NoBlk wa wb := by rw [hwb]; exact (Keeps.refl _ _).alloc _
    have kbc : Keeps NoBlk wb (wb.alloc (.cells #[.bool true, .slice la s.a.length lc, .map (some wa.heap.size), .int .i64 next] 102)) := (Keeps.refl _ _).alloc _
    have kaW : Keeps NoBlk wa W := (kab.trans kbc (fun _ _ x => x)).trans hkW (fun _ _ x => x)
    have q1 := heap_alloc_new wb (.cells #[.bool true, .slice la s.a.length lc, .map (some wa.heap.size), .int .i64 next] 102 (0, 0))
    have q2 : wb.heap[wa.heap.size]? = some (.map es clock) := by rw [hwb]; exact heap_alloc_new _ _
    refine ⟨wb.heap.size, _, rfl, ⟨.slice la s.a.length lc, wa.heap.size, s, ⟨(hkW.block _ (block_lt q1) id).trans q1, hrow.at_block (fun b hb => kaW.block b (World.ownsRow.lt hrow b hb).2 id), ⟨n, hst W _ ((hkW.block _ (Nat.lt_of_lt_of_le (block_lt q2) kbc.size) id).trans ((kbc.block _ (block_lt q2) id).trans q2))⟩⟩, h1, h2, h3, h4, h5, h6, rfl⟩, fun k hkf => ?_, hk.trans kaW (fun _ _ x => x)⟩
    have s1 := hk.size
    have s2 := kab.size
    rcases hkf with rfl | rfl | hkf
    · omega
    · omega
    · exact hfr k hkf
  clear hm hmap h1 h2 h3 h6
  go_enter Try.func56, Try.ntmps56
  go_wp2_with fail
  go_region_held3 (fun w' => w'.cell? ⟨p, 1, none⟩ = some lv ∧ w'.cell? ⟨p, 2, none⟩ = some (.map (some mb)) ∧ w'.cell? ⟨p, 3, none⟩ = some (.int .i64 next)) (first | with_reducible exact keepS _ S0 | with_reducible exact keepS _ S1 | with_reducible exact keepS _ S2 | with_reducible exact keepS _ (S2.alloc _)) (first
    | (go_at_call 108; (with_reducible refine (hcl w.drew S0).mono ?_); rintro e wa ⟨la', lc', rfl, hrow, hown, ka⟩; have S1 : Keeps NoBlk w wa := S0.trans ka (fun _ _ x => x))
    | (go_at_call 109; have hmo1 := (S1.block mb hmbl id).trans ho1; (with_reducible refine (cloneMapI_c _ mb es clock hmo1).mono ?_); rintro e wb ⟨rfl, hwb⟩; have S2 : Keeps NoBlk w wb := S1.trans (by { rw [hwb.out]; exact (Keeps.refl _ _).alloc _ }) (fun _ _ x => x)))
  go_wp2_with fail
  go_ret
  exact hfin wa wb _ la' lc' S1 hrow hown hwb.out (by first | exact Keeps.refl _ _ | exact (Keeps.refl _ _).drew)

end Go.Proofs.Ytofdcmbjcpfabaa
