/- Queues of tasks: wait, New. -/
import Derived.Test.YtofdcmbjcpfabaaQKit
namespace Go.Proofs.Ytofdcmbjcpfabaa
open Go.RowKit Go.Maps Go.MapKept Go.ChangeMaps
attribute [local go_sem ↓] Go.wp_at_zero Go.wp_at_succ

/-- A task waits behind all others. -/
def QS.wait (q : QS) (t : Task) : QS := { q with waits := q.waits ++ [t], there := fput q.there t.key 0 }

set_option maxRecDepth 100000 in
set_option maxHeartbeats 2000000 in
theorem wait_c (w : World) (p mo mt : Nat) (lv : Value) (q : QS) (h : QRaw w p lv mo mt q) (t : Task) (hbig : q.waits.length ≤ 100000000000) (hk : t.key.size ≤ maxLen) :
    Calls Try.prog 79 #[.pointer (some ⟨p, 0, none⟩), taskV t] w fun e w' =>
      e = .returned (.tuple #[]) ∧ ∃ lv', QRaw w' p lv' mo mt (q.wait t) ∧ (∀ k, lv'.ownBlock = some k → lv.ownBlock = some k ∨ w.heap.size ≤ k) ∧ Keeps (QFoot p lv mo mt) w w' := by
  obtain ⟨npo, npt, nl⟩ := h.ne
  have hplt := h.lt.1
  have hmtl := h.lt.2.2.2
  have hmol := h.lt.2.2.1
  have hllt := h.lt.2.1
  unfold taskV
  go_enter Try.func79, Try.ntmps79
  obtain ⟨B, hB⟩ : ∃ B, w.heap.size = B := ⟨_, rfl⟩
  go_wp2_with fail
  refine name_world ?_
  intro w1 hw1
  have kw : Keeps (QFoot p lv mo mt) w w1 := by subst hw1; exact (Keeps.refl _ _).alloc _
  have h1 : QRaw w1 p lv mo mt q := by subst hw1; exact h.keep0 ((Keeps.refl _ _).alloc _)
  have qb : TaskAt w1 B t := by subst hw1 hB; exact heap_alloc_new _ _
  have hsz : w1.heap.size = B + 1 := by subst hw1 hB; simp
  obtain ⟨_, _, _, d3, d4, d5⟩ := h1.fields
  have df := h1.frozen 3
  obtain ⟨b0, b1, b2, b3⟩ := qb.cells
  have hpB : ¬ p = B := by omega
  have hpB1 : ¬ p = B + 1 := by omega
  have hpl1 : p < w1.heap.size := by omega
  have hpl2 : p < B := by omega
  obtain ⟨la, lc, rfl⟩ := h.len
  have hBl : ∀ b, (Value.slice la q.waits.length lc).ownBlock = some b → ¬ B = b := fun b hb e => by have := hllt b hb; omega
  obtain ⟨i0, hi, hz0, hz1, hz2⟩ := info_parts infoTask
  have hownA : ∀ o, (w1.drew.alloc o).ownsRow 0 142 4 (.slice la q.waits.length lc) q.waits.length (q.waits.flatMap encTask) := fun o => by
    refine (h1.hl.at_block (fun b hb => ?_) : RowV _ _ _ _ _ q.waits)
    rw [Below.heap_alloc _ _ _ (by have := h1.lt.2.1 b hb; exact this)]; rfl
  have hnewsA : ∀ j u, (encTask t)[j]? = some u → (w1.drew.alloc (.cells #[.string t.key, .string t.sticky, .int .i64 t.ready, .int .i64 t.att] 142 (0, 0))).cell? ((⟨B + 1, 0, none⟩ : Addr).add j) = some u := by
    refine World.news_of_block (cs := #[.string t.key, .string t.sticky, .int .i64 t.ready, .int .i64 t.att]) (t := 142) (fr := (0, 0)) ?_
    have := heap_alloc_new w1.drew (.cells #[.string t.key, .string t.sticky, .int .i64 t.ready, .int .i64 t.att] 142 (0, 0))
    rw [show w1.drew.heap.size = B + 1 from hsz] at this
    exact this
  have h1A : ∀ u ∈ encTask t, u.oneCell' = true := fun u hu => by
    simp [encTask] at hu; rcases hu with rfl | rfl | rfl | rfl <;> rfl
  have hgA : ∀ (o : Obj) (w2 : World), (w1.drew.alloc o).grownBy w2 (Value.slice la q.waits.length lc).ownBlock → (∀ k, k < B + 1 → (Value.slice la q.waits.length lc).ownBlock ≠ some k → w2.heap[k]? = w1.heap[k]?) := fun o w2 hg k hk hne => by
    rw [hg.block k (by simp; omega) (fun e => hne e.symm), Below.heap_alloc _ _ _ (by show k < w1.heap.size; omega)]; rfl
  have allocB : ∀ o, (w1.drew.alloc o).heap[B]? = w1.heap[B]? := fun o => by
    rw [Below.heap_alloc _ _ _ (by show B < w1.heap.size; omega)]; rfl
  have keepB : ∀ w' : World, w'.heap[B]? = w1.heap[B]? → w'.cell? ⟨B, 0, none⟩ = some (.string t.key) ∧ w'.cell? ⟨B, 1, none⟩ = some (.string t.sticky) ∧ w'.cell? ⟨B, 2, none⟩ = some (.int .i64 t.ready) ∧ w'.cell? ⟨B, 3, none⟩ = some (.int .i64 t.att) := fun w' e =>
    ⟨(World.cell?_of_block (a := ⟨B, 0, none⟩) e).trans b0, (World.cell?_of_block (a := ⟨B, 1, none⟩) e).trans b1, (World.cell?_of_block (a := ⟨B, 2, none⟩) e).trans b2, (World.cell?_of_block (a := ⟨B, 3, none⟩) e).trans b3⟩
  have nlp : (Value.slice la q.waits.length lc).ownBlock ≠ some p := fun e => (nl p e).1 rfl
  have nlB : (Value.slice la q.waits.length lc).ownBlock ≠ some B := fun e => hBl B e rfl
  have k1 : Keeps NoBlk w w1 := by subst hw1; exact (Keeps.refl _ _).alloc _
  clear hw1
  go_region_law (refine step_append_lies _ (by rfl) (.tmp 8) (.tmp 10) 115 (by rfl) 0 142 i0 (.agg #[.string ⟨#[]⟩, .string ⟨#[]⟩, .int .i64 0, .int .i64 0]) 4 48 Try.underlying115 hi hz0 hz1 hz2 (by rfl) (by decide) (.slice la q.waits.length lc) q.waits.length (q.waits.flatMap encTask) (by rfl) (hownA _) ⟨B + 1, 0, none⟩ 1 1 (encTask t) (by rfl) (by rfl) hnewsA h1A (by decide) (by unfold maxLen; omega) (by omega) (Nat.zero_le _) (B + 2) (by simp [hsz]) ?_; intro g cap w2 hown hgrow hat hlt; have gp := hgA _ _ hgrow p (by omega) nlp; have gb := hgA _ _ hgrow B (by omega) nlB; have xp := (World.cell?_of_block (a := ⟨p, 3, none⟩) gp).trans d3; have xf := (World.frozen?_of_block (a := ⟨p, 3, none⟩) gp).trans df; obtain ⟨xb0, xb1, xb2, xb3⟩ := keepB _ gb)
  all_goals
    have p2 := gp.trans h1.hp
    have kw2 : Keeps (QFoot p (.slice la q.waits.length lc) mo mt) w w2 := (kw.drew.alloc _).grown hgrow (fun k e _ => .inr (.inr (.inr e)))
    have hg3 : (Value.slice la q.waits.length lc).ownBlock = some g ∨ B ≤ g := by
      rcases hat with e | e
      · exact .inl e
      · exact .inr (by omega)
    have hgne : ¬ g = p ∧ ¬ g = mo ∧ ¬ g = mt := by
      rcases hg3 with e | e
      · exact nl g e
      · exact ⟨by omega, by omega, by omega⟩
    have hmm : ∀ k, k = mo ∨ k = mt → w2.heap[k]? = w.heap[k]? := fun k hk => by
      have hk' : k < B ∧ (Value.slice la q.waits.length lc).ownBlock ≠ some k := by
        rcases hk with rfl | rfl
        · exact ⟨by omega, fun e => (nl _ e).2.1 rfl⟩
        · exact ⟨by omega, fun e => (nl _ e).2.2 rfl⟩
      rw [hgA _ _ hgrow k (by omega) hk'.2]
      exact k1.block k (by omega) id
    generalize hw3 : w2.setCell ⟨p, 3, none⟩ (.slice (some ⟨g, 0, none⟩) (q.waits.length + 1) cap) = w3
    have hb3 : ∀ k, k ≠ p → w3.heap[k]? = w2.heap[k]? := fun k hk => by subst hw3; exact Below.heap_setCell _ _ _ _ hk
    have k3 : Keeps (QFoot p (.slice la q.waits.length lc) mo mt) w w3 := by subst hw3; exact kw2.setCell (p := ⟨p, 3, none⟩) (fun _ => .inl rfl) _
    have h3 : QRaw w3 p (.slice (some ⟨g, 0, none⟩) (q.waits.length + 1) cap) mo mt { q with waits := q.waits ++ [t] } := by
      refine ⟨?_, ?_, ?_, ?_, h.hm⟩
      · subst hw3; rw [heap_setCell_same _ _ _ _ _ _ p2]; rfl
      · have : RowV w2 142 4 encTask (.slice (some ⟨g, 0, none⟩) (q.waits.length + 1) cap) (q.waits ++ [t]) := by
          unfold RowV
          simpa using hown
        exact this.at_block (fun b hb => hb3 b (by cases hb; exact hgne.1))
      · exact h.ho.elim fun n x => ⟨n, x.at_block ((hb3 mo (fun e => npo e.symm)).trans (hmm mo (.inl rfl)))⟩
      · exact h.ht.elim fun n x => ⟨n, x.at_block ((hb3 mt (fun e => npt e.symm)).trans (hmm mt (.inr rfl)))⟩
    have tb3 : TaskAt w3 B t := (hb3 B (fun e => hpB e.symm)).trans (gb.trans qb)
    obtain ⟨y0, _, _, _⟩ := tb3.cells
    obtain ⟨_, _, _, _, _, x5⟩ := h3.fields
    obtain ⟨n, hmt⟩ := h3.ht
    obtain ⟨ob, hst⟩ := hmt.store keyS Try.underlying71 strInj (keyOf_s hk) 0
    obtain ⟨hrun, hmap⟩ := hst w3.drew rfl
    have npt' : ¬ mt = p := fun e => npt e.symm
    have hmtB : ¬ mt = B := by omega
    clear hown hgrow hgA hnewsA hownA h1A keepB allocB xp xf xb0 xb1 xb2 xb3 hw3 hst
    go_wp2_with fail
    go_region_held3 (fun w' => w'.cell? ⟨p, 5, none⟩ = some (.map (some mt)) ∧ w'.cell? ⟨B, 0, none⟩ = some (.string t.key)) (first | (simp [*]; done) | (simp [cell?_setBlock_other, *]; done)) (fail)
    go_wp2_with fail
    go_end0
    refine ⟨rfl, _, ⟨?_, h3.hl.at_block (fun b hb => ?_), h3.ho.elim fun n x => ⟨n, x.at_block ?_⟩, ⟨_, hmap⟩, h.hm⟩, fun k hk => ?_, ?_⟩
    · rw [heap_setBlock_ne _ _ _ _ npt]; exact h3.hp
    · exact heap_setBlock_ne _ _ _ _ (by cases hb; exact hgne.2.2)
    · exact heap_setBlock_ne _ _ _ _ h.hm
    · cases hk
      rcases hat with e | e
      · exact .inl e
      · exact .inr (by show w.heap.size ≤ g; omega)
    · exact k3.drew.setBlock (fun _ => .inr (.inr (.inl rfl))) _

end Go.Proofs.Ytofdcmbjcpfabaa
