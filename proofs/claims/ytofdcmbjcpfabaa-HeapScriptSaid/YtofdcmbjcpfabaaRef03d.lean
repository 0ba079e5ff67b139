/- Layer 3's reference: Change, Copy, All. -/
import Derived.Test.YtofdcmbjcpfabaaRef03c
import Derived.Deep.RegionHeld3
import Derived.Deep.RegionLaw
import Derived.Deep.AppendLies
import Derived.BigQuiet
namespace Go.Proofs.Ytofdcmbjcpfabaa
open Go.RowKit Go.Maps Go.MapKept Go.ChangeMaps
attribute [local go_sem ↓] Go.wp_at_zero Go.wp_at_succ

/-- What Change does. -/
def ChgR (w : World) (p : Nat) (S : Nat → Prop) (R : List (Thing Int)) (next n key : Int) (e : Ending) (w' : World) : Prop :=
  ((∀ x ∈ R, x.num ≠ n) ∧ e = .returned (.bool false) ∧ w = w') ∨
  ∃ (j : Nat) (hj : j < R.length), R[j].num = n ∧ e = .returned (.bool true) ∧ IsRef w' p S (R.set j { R[j] with key := key }) next ∧ Moves S w S w'

theorem row_key {w : World} {e : TypeId} {g cap : Nat} {R : List (Thing Int)} (h : RowAt w e 3 encI g cap R) {i : Nat} (hi : i < R.length) (key : Int) : RowAt (w.setCell ⟨g, i * 3, none⟩ (.int .i64 key)) e 3 encI g cap (R.set i { R[i] with key := key }) := by
  have f1 : (R.flatMap encI)[i * 3 + 1]? = some (.int .i64 R[i].num) := flat_get encI 3 encI_len R i 1 hi (by omega)
  have f2 : (R.flatMap encI)[i * 3 + 2]? = some (.int .i64 R[i].v) := flat_get encI 3 encI_len R i 2 hi (by omega)
  have e1 : (R.set i { R[i] with key := key }).flatMap encI = (R.flatMap encI).set (i * 3) (.int .i64 key) := by
    rw [flat_set encI 3 encI_len R i _ hi]
    show (((R.flatMap encI).set (i * 3) (.int .i64 key)).set (i * 3 + 1) (.int .i64 R[i].num)).set (i * 3 + 1 + 1) (.int .i64 R[i].v) = _
    rw [set_same (xs := (R.flatMap encI).set (i * 3) (.int .i64 key)) (j := i * 3 + 1) (by rw [List.getElem?_set, if_neg (by omega)]; exact f1)]
    rw [set_same (j := i * 3 + 1 + 1) (by rw [List.getElem?_set, if_neg (by omega)]; exact f2)]
  unfold RowAt RowV
  rw [e1, List.length_set]
  exact (World.ownsRow.stored h (i * 3) (.int .i64 key)).1

set_option maxRecDepth 100000 in
set_option maxHeartbeats 2000000 in
theorem change_r {w : World} {p : Nat} {S : Nat → Prop} {R : List (Thing Int)} {next : Int} (h : IsRef w p S R next) (hb : R.length ≤ 1000000) (n key : Int) :
    Calls Try.prog 55 #[.pointer (some ⟨p, 0, none⟩), .int .i64 n, .int .i64 key] w (ChgR w p S R next n key) := by
  have hf := find_r h hb n
  obtain ⟨lv, hr, rfl⟩ := h
  obtain ⟨c0, _⟩ := hr.fields
  go_enter Try.func55, Try.ntmps55
  go_wp2_with fail
  refine hf.mono ?_
  rintro e w1 ⟨a, rfl, hF, rfl⟩
  rcases hF with ⟨rfl, hno⟩ | ⟨j, hjl, rfl, hjn⟩
  · go_wp2_with fail
    go_ret
    exact .inl ⟨hno, rfl, rfl⟩
  · obtain ⟨g, cap, rfl, hg, q0, q1, q2⟩ := hr.at hjl
    have hrow : RowAt w 94 3 encI g cap R := hr.hg
    have f0 := hrow.frozen (j * 3)
    have hgp : ¬ g = p := hr.ne g rfl
    have hpg : ¬ p = g := fun e => hgp e.symm
    have hfin : ChgR w p (RfFoot p (.slice (some ⟨g, 0, none⟩) R.length cap)) R next n key (.returned (.bool true)) (w.setCell ⟨g, j * 3, none⟩ (.int .i64 key)) := by
      refine .inr ⟨j, hjl, hjn, rfl, ⟨_, ⟨?_, ?_⟩, rfl⟩, (Keeps.refl _ _).setCell (p := ⟨g, j * 3, none⟩) (fun _ => .inr rfl) _, fun k hk => .inl hk⟩
      · rw [Below.heap_setCell _ _ _ _ hpg]; exact hr.hp
      · have := row_key hrow hjl key
        have : RowV (w.setCell ⟨g, j * 3, none⟩ (.int .i64 key)) 94 3 encI (.slice (some ⟨g, 0, none⟩) (R.set j { R[j] with key := key }).length cap) (R.set j { R[j] with key := key }) := this
        rw [List.length_set] at this
        exact this
    have j0 : (0 : Int) ≤ j := by omega
    have j1 : ¬ (j : Int) < 0 := by omega
    have j2 : (j : Int) < R.length := by omega
    obtain ⟨x, hx⟩ : ∃ x, R[j] = x := ⟨_, rfl⟩
    rw [hx] at q0
    clear hx hr hjn hf q1 q2 hrow
    go_wp2_with fail
    go_ret
    exact hfin

/-- What Copy makes. -/
def CopR (w : World) (R : List (Thing Int)) (next : Int) (e : Ending) (w' : World) : Prop :=
  ∃ p' S', e = .returned (.pointer (some ⟨p', 0, none⟩)) ∧ IsRef w' p' S' R next ∧ (∀ k, S' k → w.heap.size ≤ k) ∧ Keeps NoBlk w w'

set_option maxRecDepth 100000 in
set_option maxHeartbeats 2000000 in
theorem copy_r {w : World} {p : Nat} {S : Nat → Prop} {R : List (Thing Int)} {next : Int} (h : IsRef w p S R next) (hb : R.length ≤ 1000000) :
    Calls Try.prog 147 #[.pointer (some ⟨p, 0, none⟩)] w (CopR w R next) := by
  obtain ⟨lv, hr, _⟩ := h
  obtain ⟨c0, c1⟩ := hr.fields
  obtain ⟨i0, hi, hz0, hz1, hz2⟩ := info_parts infoRf
  obtain ⟨B, hB⟩ : ∃ B, w.heap.size = B := ⟨_, rfl⟩
  have hpl := hr.lt.1
  go_enter Try.func147, Try.ntmps147
  go_wp2_with fail
  refine name_world ?_
  intro w1 hw1
  have k1 : Keeps NoBlk w w1 := by subst hw1; exact (Keeps.refl _ _).alloc _
  have q1 : w1.heap[B]? = some (.cells #[.slice none 0 0, .int .i64 next] 89 (0, 0)) := by subst hw1 hB; exact heap_alloc_new _ _
  have hs1 : w1.heap.size = B + 1 := by subst hw1 hB; simp
  have hr1 := hr.keep k1 (fun _ _ x => x)
  obtain ⟨d0, _⟩ := hr1.fields
  have z0 : w1.cell? ⟨B, 0, none⟩ = some (.slice none 0 0) := by rw [cell_of_row _ _ _ _ _ _ q1]; rfl
  have zf : w1.frozen? ⟨B, 0, none⟩ = false := frozen_of_row _ _ _ _ _ q1
  clear hw1 c0 c1
  have hBp : ¬ B = p := by omega
  have hfin : ∀ (W0 : World) (v : Value) (W : World), Keeps NoBlk w1 W0 → Keeps NoBlk (W0.setCell ⟨B, 0, none⟩ v) W → RowV W0 94 3 encI v R → (∀ b, v.ownBlock = some b → w.heap.size ≤ b ∧ ¬ b = B) → CopR w R next (.returned (.pointer (some ⟨B, 0, none⟩))) W := fun W0 v W hk hk2 hrow hfr => by
    have q0 := (hk.block B (by omega) id).trans q1
    have kS : Keeps (fun k => k = B) W0 (W0.setCell ⟨B, 0, none⟩ v) := (Keeps.refl (fun k => k = B) W0).setCell (p := ⟨B, 0, none⟩) (fun _ => rfl) _
    have q2 : (W0.setCell ⟨B, 0, none⟩ v).heap[B]? = some (.cells #[v, .int .i64 next] 89 (0, 0)) := by
      rw [heap_setCell_same _ _ _ _ _ _ q0]; simp
    refine ⟨B, _, rfl, ⟨v, ⟨(hk2.block B (block_lt q2) id).trans q2, ?_⟩, rfl⟩, fun k hk => ?_, ((k1.trans hk (fun _ _ x => x)).trans kS (fun k hk e => by omega)).trans hk2 (fun _ _ x => x)⟩
    · have h1 := hrow.at_block (fun b hb => kS.block b (World.ownsRow.lt hrow b hb).2 (hfr b hb).2)
      exact h1.at_block (fun b hb => hk2.block b (World.ownsRow.lt h1 b hb).2 id)
    · rcases hk with rfl | hk
      · omega
      · exact (hfr k hk).1
  rcases Nat.eq_zero_or_pos R.length with h0 | h0
  · have hR : R = [] := List.length_eq_zero_iff.1 h0
    subst hR
    have hz := fun W0 W hk hk2 => hfin W0 (.slice none 0 0) W hk hk2 (RowV.nil _ _ _ _) (fun b hb => by cases hb)
    obtain ⟨ga, gc, rfl⟩ := hr.len
    rw [h0] at d0
    clear hr hr1 hfin
    cases ga with
    | none =>
      go_region_law (fail)
      all_goals (go_wp2_with fail)
      all_goals (go_ret)
      all_goals first | exact hz _ _ (Keeps.refl _ _).drew (Keeps.refl _ _) | exact hz _ _ (Keeps.refl _ _) (Keeps.refl _ _).drew
    | some ga =>
      go_region_law (fail)
      all_goals (go_wp2_with fail)
      all_goals (go_ret)
      all_goals first | exact hz _ _ (Keeps.refl _ _).drew (Keeps.refl _ _) | exact hz _ _ (Keeps.refl _ _) (Keeps.refl _ _).drew
  · obtain ⟨g, cap, rfl, hg, _⟩ := hr1.at h0
    obtain ⟨m, hm⟩ : ∃ m, R.length = m := ⟨_, rfl⟩
    rw [hm] at d0
    have hrow : RowAt w1 94 3 encI g cap R := hr1.hg
    have hnews : ∀ (W : World), W.heap = w1.heap → ∀ j u, (R.flatMap encI)[j]? = some u → W.cell? ((⟨g, 0, none⟩ : Addr).add j) = some u := fun W hW j u hu => by
      have hj : j < R.length * 3 := by
        have := (List.getElem?_eq_some_iff.1 hu).1
        rwa [flat_length encI 3 encI_len] at this
      rw [Addr.add_lit, Nat.zero_add, World.cell?_of_block (w := w1) (w' := W) (a := ⟨g, j, none⟩) (by rw [hW]), World.ownsRow.cellAt hrow j hj]
      exact hu
    have h1A : ∀ u ∈ R.flatMap encI, u.oneCell' = true := fun u hu => by
      obtain ⟨x, _, hx⟩ := List.mem_flatMap.1 hu
      simp [encI] at hx; rcases hx with rfl | rfl | rfl <;> rfl
    have hlen : (R.flatMap encI).length = m * 3 := by rw [flat_length encI 3 encI_len, hm]
    have hpos : 0 < m := by omega
    have hb' : m ≤ 1000000 := by omega
    have hkB : ∀ w2 : World, w1.drew.grownBy w2 none → w2.heap[B]? = w1.heap[B]? := fun w2 h => (h.block B (by show B < w1.heap.size; omega) (by simp)).trans rfl
    clear hr
    go_region_law (refine step_append_lies _ (by rfl) (.tmp 14) (.tmp 18) 87 (by rfl) 0 94 i0 (.agg #[.int .i64 0, .int .i64 0, .int .i64 0]) 3 24 Try.underlying87 hi hz0 hz1 hz2 (by rfl) (by decide) (.slice none 0 0) 0 [] (by rfl) (World.ownsRow_nil _ _ _ _) ⟨g, 0, none⟩ m cap (R.flatMap encI) (by rfl) hlen (hnews _ rfl) h1A hpos (by unfold maxLen; omega) (by omega) (Nat.zero_le _) (B + 1) (by show w1.heap.size = _; exact hs1) ?_; intro g2 cap2 w2 hown hgrow hat hlt; have gB := hkB _ hgrow; have xp := (World.cell?_of_block (a := ⟨B, 0, none⟩) gB).trans z0; have xf := (World.frozen?_of_block (a := ⟨B, 0, none⟩) gB).trans zf)
    all_goals
      have k2 : Keeps NoBlk w1 w2 := (Keeps.refl _ _).drew.grown hgrow (fun k e _ => by cases e)
      have hg2 : w.heap.size ≤ g2 ∧ ¬ g2 = B := by
        rcases hat with e | e
        · cases e
        · omega
      have hrow2 : RowV w2 94 3 encI (.slice (some ⟨g2, 0, none⟩) m cap2) R := by
        unfold RowV
        rw [hm]
        simpa using hown
      have hz := fun W hk => hfin w2 (.slice (some ⟨g2, 0, none⟩) m cap2) W k2 hk hrow2 (fun b hb => by cases hb; exact hg2)
      clear hown hgrow hrow2 hfin hnews h1A hkB xp xf gB
    all_goals (go_wp2_with fail)
    all_goals (go_ret)
    all_goals first | exact hz _ (Keeps.refl _ _) | exact hz _ (Keeps.refl _ _).drew

end Go.Proofs.Ytofdcmbjcpfabaa
