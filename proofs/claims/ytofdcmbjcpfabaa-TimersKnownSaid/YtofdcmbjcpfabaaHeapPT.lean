/- Heap[api.Timer]: Push, Peek: a value of several cells. -/
import Derived.Test.YtofdcmbjcpfabaaHeapXT
import Derived.Deep.RegionLaw
namespace Go.Proofs.Ytofdcmbjcpfabaa
open Go.RowKit Go.Maps Go.MapKept Go.ChangeMaps
attribute [local go_sem ↓] Go.wp_at_zero Go.wp_at_succ

/-- A timer as one value. -/
def tmV (v : Tm) : Value := .agg #[.int .i64 v.due, .string v.owner, .int .i64 v.id]

set_option maxRecDepth 100000 in
set_option maxHeartbeats 2000000 in
theorem pushT_c (w : World) (p mb : Nat) (lv : Value) (s : HS Tm) (next : Int) (h : HMemT w p lv mb s next) (key : Int) (v : Tm) (hbig : s.a.length ≤ 100000000000) (hn0 : 0 ≤ next) (hn1 : next ≤ 1000000000000)
    (hx : ∀ j, (Lit.int .i64 (s.get j).num).wf = true) :
    Calls Try.prog 111 #[.pointer (some ⟨p, 0, none⟩), .int .i64 key, tmV v] w fun e w' =>
      e = .returned (.int .i64 next) ∧ ∃ lv', HMemT w' p lv' mb (s.push ⟨key, next, v⟩) (next + 1) ∧ (∀ k, lv'.ownBlock = some k → lv.ownBlock = some k ∨ w.heap.size ≤ k) ∧ Keeps (HFoot p lv mb) w w' := by
  obtain ⟨c0, c1, c2, c3⟩ := h.fields
  have f3 := h.frozen 3
  have f1 := h.frozen 1
  have hpm : ¬ mb = p := fun e => by subst e; obtain ⟨n, es, cl, hh, _⟩ := h.hm; rw [h.hp] at hh; cases hh
  have hpl : ∀ b, lv.ownBlock = some b → ¬ b = p := fun b hb e => by
    subst e
    rcases h.raw with ⟨e, _⟩ | ⟨g, cap, e, hr⟩
    · subst e; cases hb
    · subst e; cases hb; exact hr.ne.1 rfl
  have hml : ∀ b, lv.ownBlock = some b → ¬ b = mb := fun b hb e => by
    subst e
    rcases h.raw with ⟨e, _⟩ | ⟨g, cap, e, hr⟩
    · subst e; cases hb
    · subst e; cases hb; exact hr.ne.2.2 rfl
  unfold tmV
  go_enter Try.func111, Try.ntmps111
  obtain ⟨B, hB⟩ : ∃ B, w.heap.size = B := ⟨_, rfl⟩
  have hpB : ¬ p = B := by have := h.lt.1; omega
  have hmB : ¬ mb = B := by have := h.lt.2.2; omega
  have hpBl : p < B := by have := h.lt.1; omega
  go_wp2_with fail
  refine name_world ?_
  intro w1 hw1
  have q1 : w1.heap[p]? = some (.cells #[.bool true, lv, .map (some mb), .int .i64 (next + 1)] 215 (0, 0)) := by
    subst hw1
    rw [Below.heap_alloc _ _ _ (by simp; omega), heap_setCell_same _ _ _ _ _ _ h.hp]; rfl
  have q2 : w1.heap[mb]? = w.heap[mb]? := by
    subst hw1
    rw [Below.heap_alloc _ _ _ (by simp; exact h.lt.2.2), Below.heap_setCell _ _ _ _ hpm]
  have q3 : RowV w1 212 5 encT lv s.a := by
    refine h.hg.at_block (fun b hb => ?_)
    subst hw1
    rw [Below.heap_alloc _ _ _ (by simp; exact h.lt.2.1 b hb), Below.heap_setCell _ _ _ _ (hpl b hb)]
  have kw : Keeps (HFoot p lv mb) w w1 := by
    subst hw1
    exact ((Keeps.refl _ _).setCell (p := ⟨p, 3, none⟩) (fun _ => .inl rfl) _).alloc _
  have qb : w1.heap[B]? = some (.cells #[.int .i64 v.due, .string v.owner, .int .i64 v.id] 53 (0, 0)) := by
    subst hw1 hB
    have := heap_alloc_new (w.setCell ⟨p, 3, none⟩ (.int .i64 (next + 1))) (.cells #[.int .i64 v.due, .string v.owner, .int .i64 v.id] 53 (0, 0))
    simpa using this
  have d1 : w1.cell? ⟨p, 1, none⟩ = some lv := by rw [cell_of_row _ _ _ _ _ _ q1]; rfl
  have df : w1.frozen? ⟨p, 1, none⟩ = false := frozen_of_row _ _ _ _ _ q1
  have b0 : w1.cell? ⟨B, 0, none⟩ = some (.int .i64 v.due) := by rw [cell_of_row _ _ _ _ _ _ qb]; rfl
  have b1 : w1.cell? ⟨B, 1, none⟩ = some (.string v.owner) := by rw [cell_of_row _ _ _ _ _ _ qb]; rfl
  have b2 : w1.cell? ⟨B, 2, none⟩ = some (.int .i64 v.id) := by rw [cell_of_row _ _ _ _ _ _ qb]; rfl
  have hsz : w1.heap.size = B + 1 := by subst hw1 hB; simp
  have hpl1 : p < w1.heap.size := by omega
  have hp1 : ¬ p = B + 1 := by omega
  clear hw1 c0 c1 c2 c3 f3 f1
  obtain ⟨i0, hi, hz0, hz1, hz2⟩ := info_parts infoThingT
  have hBl : ∀ b, lv.ownBlock = some b → ¬ B = b := fun b hb e => by have := h.lt.2.1 b hb; omega
  have hownA : ∀ o, (w1.drew.alloc o).ownsRow 0 212 5 lv s.a.length (s.a.flatMap encT) := fun o => by
    refine (q3.at_block (fun b hb => ?_) : RowV _ _ _ _ lv s.a)
    rw [Below.heap_alloc _ _ _ (by have := h.lt.2.1 b hb; show b < w1.heap.size; omega)]; rfl
  have hnewsA : ∀ j u, (encT ⟨key, next, v⟩)[j]? = some u → (w1.drew.alloc (.cells #[.int .i64 key, .int .i64 next, .int .i64 v.due, .string v.owner, .int .i64 v.id] 212 (0, 0))).cell? ((⟨B + 1, 0, none⟩ : Addr).add j) = some u := by
    refine World.news_of_block (cs := #[.int .i64 key, .int .i64 next, .int .i64 v.due, .string v.owner, .int .i64 v.id]) (t := 212) (fr := (0, 0)) ?_
    have := heap_alloc_new w1.drew (.cells #[.int .i64 key, .int .i64 next, .int .i64 v.due, .string v.owner, .int .i64 v.id] 212 (0, 0))
    rw [show w1.drew.heap.size = B + 1 from hsz] at this
    exact this
  have h1A : ∀ u ∈ encT ⟨key, next, v⟩, u.oneCell' = true := fun u hu => by
    simp [encT] at hu; rcases hu with rfl | rfl | rfl | rfl | rfl <;> rfl
  have hgA : ∀ (o : Obj) (w2 : World), (w1.drew.alloc o).grownBy w2 lv.ownBlock → w2.heap[p]? = w1.heap[p]? ∧ w2.heap[B]? = w1.heap[B]? ∧ w2.heap[mb]? = w.heap[mb]? := fun o w2 hg => by
    refine ⟨?_, ?_, ?_⟩
    · rw [hg.block p (by simp; omega) (fun e => hpl p e.symm rfl), Below.heap_alloc _ _ _ (by show p < w1.heap.size; omega)]; rfl
    · rw [hg.block B (by simp; omega) (fun e => hBl B e.symm rfl), Below.heap_alloc _ _ _ (by show B < w1.heap.size; omega)]; rfl
    · rw [hg.block mb (by have := h.lt.2.2; simp; omega) (fun e => hml mb e.symm rfl), Below.heap_alloc _ _ _ (by have := h.lt.2.2; show mb < w1.heap.size; omega)]
      exact q2
  have hBp : B ≠ p := fun e => hpB e.symm
  have keepB : ∀ w' : World, w'.heap[B]? = w1.heap[B]? → w'.cell? ⟨B, 0, none⟩ = some (.int .i64 v.due) ∧ w'.cell? ⟨B, 1, none⟩ = some (.string v.owner) ∧ w'.cell? ⟨B, 2, none⟩ = some (.int .i64 v.id) := fun w' e =>
    ⟨(World.cell?_of_block (a := ⟨B, 0, none⟩) e).trans b0, (World.cell?_of_block (a := ⟨B, 1, none⟩) e).trans b1, (World.cell?_of_block (a := ⟨B, 2, none⟩) e).trans b2⟩
  have allocB : ∀ o, (w1.drew.alloc o).heap[B]? = w1.heap[B]? := fun o => by
    rw [Below.heap_alloc _ _ _ (by show B < w1.heap.size; omega)]; rfl
  go_region_law (refine step_append_lies _ (by rfl) (.tmp 32) (.tmp 37) 213 (by rfl) 0 212 i0 (.agg #[.int .i64 0, .int .i64 0, .int .i64 0, .string ⟨#[]⟩, .int .i64 0]) 5 48 Try.underlying213 hi hz0 hz1 hz2 (by rfl) (by decide) lv s.a.length (s.a.flatMap encT) (by rfl) (hownA _) ⟨B + 1, 0, none⟩ 1 1 (encT ⟨key, next, v⟩) (by rfl) (by rfl) hnewsA h1A (by decide) (by unfold maxLen; omega) (by omega) (Nat.zero_le _) (B + 2) (by simp [hsz]) ?_; intro g cap w2 hown hgrow hat hlt; obtain ⟨gp, gb, m2⟩ := hgA _ _ hgrow; have xp := (World.cell?_of_block (a := ⟨p, 1, none⟩) gp).trans d1; have xf := (World.frozen?_of_block (a := ⟨p, 1, none⟩) gp).trans df)
  all_goals
    have p2 : w2.heap[p]? = some (.cells #[.bool true, lv, .map (some mb), .int .i64 (next + 1)] 215 (0, 0)) := gp.trans q1
    have kw2 : Keeps (HFoot p lv mb) w w2 := (kw.drew.alloc _).grown hgrow (fun k e _ => .inr (.inr e))
    have hgp : ¬ g = p := fun e => by
      subst e
      rcases hown.2 with ⟨e, _⟩ | ⟨g', cap', cur, e, _, r2, _⟩
      · cases e
      · cases e; rw [p2] at r2; cases r2
    have hraw : HRawT (w2.setCell ⟨p, 1, none⟩ (.slice (some ⟨g, 0, none⟩) (s.a.length + 1) cap)) p g mb cap ⟨s.a ++ [⟨key, next, v⟩], s.m⟩ (next + 1) := by
      refine ⟨?_, ?_, ?_⟩
      · rw [heap_setCell_same _ _ _ _ _ _ p2]; simp
      · refine RowAt.at_block (w := w2) ?_ ?_
        · show World.ownsRow _ _ _ _ _ _ _
          simpa using hown
        · rw [Below.heap_setCell _ _ _ _ hgp]
      · obtain ⟨n, hm⟩ := h.hm
        refine ⟨n, hm.at_block ?_⟩
        rw [Below.heap_setCell _ _ _ _ hpm, m2]
    have k2 : Keeps (HFoot p lv mb) w (w2.setCell ⟨p, 1, none⟩ (.slice (some ⟨g, 0, none⟩) (s.a.length + 1) cap)) := kw2.setCell (p := ⟨p, 1, none⟩) (fun _ => .inl rfl) _
    have hrise := riseT_c _ p g mb cap ⟨s.a ++ [⟨key, next, v⟩], s.m⟩ (next + 1) hraw s.a.length (by simp) (fun j => by
      rw [HS.get_push]
      split
      · exact WalkArith.wf_i64 (by show -9223372036854775808 ≤ next ∧ next ≤ 9223372036854775807; omega)
      · exact hx j)
    obtain ⟨_, r1, _, _⟩ := hraw.fields
    clear hownA hnewsA h1A hgA keepB allocB hown hgrow xp xf gp gb
    go_wp2_with fail
    refine hrise.mono ?_
    rintro e w3 ⟨rfl, h3, hk3⟩
    go_wp2_with fail
    go_ret
    rw [HS.get_push, if_pos rfl] at h3
    refine ⟨rfl, _, h3.mem, fun k hk => ?_, ?_⟩
    · cases hk
      rcases hat with e | e
      · exact .inl e
      · exact .inr (by show w.heap.size ≤ g; omega)
    · refine k2.trans hk3 (fun i hi e => ?_)
      rcases e with rfl | rfl
      · rcases hat with e | e
        · exact .inr (.inr e)
        · omega
      · exact .inr (.inl rfl)

set_option maxRecDepth 100000 in
set_option maxHeartbeats 2000000 in
theorem peekT_c (w : World) (p mb : Nat) (lv : Value) (s : HS Tm) (next : Int) (h : HMemT w p lv mb s next) :
    Calls Try.prog 99 #[.pointer (some ⟨p, 0, none⟩)] w fun e w' =>
      e = .returned (.tuple #[.int .i64 (s.get 0).key, tmV (s.get 0).v, .int .i64 (s.get 0).num, .bool (decide (0 < s.a.length))]) ∧ Keeps NoBlk w w' := by
  by_cases h0 : s.a.length = 0
  · have e : s.get 0 = default := by simp [HS.get, List.length_eq_zero_iff.1 h0]
    have hd : ((s.a.length : Int) == 0) = true := by simp [h0]
    rw [e]
    have hd2 : decide (0 < s.a.length) = false := by simp [h0]
    rw [hd2]
    have h' : ∀ o, HMemT (w.alloc o) p lv mb s next := fun o => h.keep0 ((Keeps.refl _ _).alloc o)
    clear h0 e hd2
    go_enter Try.func99, Try.ntmps99
    go_wp2_with fail
    refine (lenT_c _ p mb lv s next (h' _)).mono ?_
    rintro e w' ⟨rfl, rfl⟩
    go_wp2_with fail
    refine bodyPost_ret (v := .tuple #[.int .i64 0, .agg #[.int .i64 0, .string ⟨#[]⟩, .int .i64 0], .int .i64 0, .bool false]) (by simp [results, go_sem]) rfl ?_
    exact ⟨rfl, (Keeps.refl _ _).alloc _⟩
  · have h0' : 0 < s.a.length := by omega
    have hd : ((s.a.length : Int) == 0) = false := by simp; intro e; simp [e] at h0'
    have hd2 : decide (0 < s.a.length) = true := by simp [h0']
    rw [hd2]
    obtain ⟨g, cap, rfl, hr⟩ := h.raw.resolve_left (fun x => h0 (by rw [x.2]; rfl))
    obtain ⟨B, hB⟩ : ∃ B, w.heap.size = B := ⟨_, rfl⟩
    have hi1 : (0 : Int) < s.a.length := by omega
    clear hd2 h0
    go_enter Try.func99, Try.ntmps99
    go_wp2_with fail
    refine (lenT_c _ p mb _ s next (h.keep0 ((Keeps.refl _ _).alloc _))).mono ?_
    rintro e w1 ⟨rfl, hw1⟩
    have k1 : Keeps NoBlk w w1 := by subst hw1; exact (Keeps.refl _ _).alloc _
    have h1 : HRawT w1 p g mb cap s next := hr.keep k1 id id id
    have hs1 : w1.heap.size = B + 1 := by subst hw1 hB; simp
    have b0 : w1.heap[B]? = some (.cells #[.int .i64 0, .string ⟨#[]⟩, .int .i64 0] 53 (0, 0)) := by subst hw1 hB; exact (heap_alloc_new _ _).trans (by rfl)
    obtain ⟨g0, g1, g2, g3, g4⟩ := h1.cell h0'
    simp only [Nat.zero_mul, Nat.zero_add] at g0 g1 g2 g3 g4
    obtain ⟨_, c1, _, _⟩ := h1.fields
    have hg1 : g < B + 1 := by have := h1.lt.2.1; omega
    have hp1 : p < B + 1 := by have := h1.lt.1; omega
    clear hw1
    go_wp2_with fail
    refine name_world ?_
    intro w2 hw2
    have k2 : Keeps NoBlk w1 w2 := by subst hw2; exact (Keeps.refl _ _).alloc _
    have b2 : w2.heap[B]? = some (.cells #[.int .i64 0, .string ⟨#[]⟩, .int .i64 0] 53 (0, 0)) := (k2.block B (by omega) id).trans b0
    have c2 : w2.heap[B + 1]? = some (.cells #[.int .i64 (s.get 0).key, .int .i64 (s.get 0).num, .int .i64 (s.get 0).v.due, .string (s.get 0).v.owner, .int .i64 (s.get 0).v.id] 212 (0, 0)) := by
      subst hw2; rw [← hs1]; exact (heap_alloc_new _ _).trans (by rfl)
    have m0 : w2.cell? ⟨B + 1, 0, none⟩ = some (.int .i64 (s.get 0).key) := by rw [cell_of_row _ _ _ _ _ _ c2]; rfl
    have m1 : w2.cell? ⟨B + 1, 1, none⟩ = some (.int .i64 (s.get 0).num) := by rw [cell_of_row _ _ _ _ _ _ c2]; rfl
    have m2 : w2.cell? ⟨B + 1, 2, none⟩ = some (.int .i64 (s.get 0).v.due) := by rw [cell_of_row _ _ _ _ _ _ c2]; rfl
    have m3 : w2.cell? ⟨B + 1, 3, none⟩ = some (.string (s.get 0).v.owner) := by rw [cell_of_row _ _ _ _ _ _ c2]; rfl
    have m4 : w2.cell? ⟨B + 1, 4, none⟩ = some (.int .i64 (s.get 0).v.id) := by rw [cell_of_row _ _ _ _ _ _ c2]; rfl
    have t0 : w2.cell? ⟨B, 0, none⟩ = some (.int .i64 0) := by rw [cell_of_row _ _ _ _ _ _ b2]; rfl
    have t1 : w2.cell? ⟨B, 1, none⟩ = some (.string ⟨#[]⟩) := by rw [cell_of_row _ _ _ _ _ _ b2]; rfl
    have t2 : w2.cell? ⟨B, 2, none⟩ = some (.int .i64 0) := by rw [cell_of_row _ _ _ _ _ _ b2]; rfl
    have u0 : w2.frozen? ⟨B, 0, none⟩ = false := frozen_of_row _ _ _ _ _ b2
    have u1 : w2.frozen? ⟨B, 1, none⟩ = false := frozen_of_row _ _ _ _ _ b2
    have u2 : w2.frozen? ⟨B, 2, none⟩ = false := frozen_of_row _ _ _ _ _ b2
    have hBB : ¬ B = B + 1 := by omega
    have hBB' : B + 1 ≠ B := by omega
    have keepM : ∀ w' : World, w'.heap[B + 1]? = w2.heap[B + 1]? → w'.cell? ⟨B + 1, 0, none⟩ = some (.int .i64 (s.get 0).key) ∧ w'.cell? ⟨B + 1, 1, none⟩ = some (.int .i64 (s.get 0).num) ∧ w'.cell? ⟨B + 1, 2, none⟩ = some (.int .i64 (s.get 0).v.due) ∧ w'.cell? ⟨B + 1, 3, none⟩ = some (.string (s.get 0).v.owner) ∧ w'.cell? ⟨B + 1, 4, none⟩ = some (.int .i64 (s.get 0).v.id) := fun w' e =>
      ⟨(World.cell?_of_block (a := ⟨B + 1, 0, none⟩) e).trans m0, (World.cell?_of_block (a := ⟨B + 1, 1, none⟩) e).trans m1, (World.cell?_of_block (a := ⟨B + 1, 2, none⟩) e).trans m2, (World.cell?_of_block (a := ⟨B + 1, 3, none⟩) e).trans m3, (World.cell?_of_block (a := ⟨B + 1, 4, none⟩) e).trans m4⟩
    have storedM : ∀ x y z, (((w2.setCell ⟨B, 0, none⟩ x).setCell ⟨B, 1, none⟩ y).setCell ⟨B, 2, none⟩ z).heap[B + 1]? = w2.heap[B + 1]? := fun x y z => by
      rw [Below.heap_setCell _ _ _ _ hBB', Below.heap_setCell _ _ _ _ hBB', Below.heap_setCell _ _ _ _ hBB']
    have hup : B < w.heap.size → NoBlk B := fun x => by omega
    clear hw2 c2 b2 b0 c1 g0 g1 g2 g3 g4
    go_region_held3 (fun w' => w'.cell? ⟨B + 1, 0, none⟩ = some (.int .i64 (s.get 0).key) ∧ w'.cell? ⟨B + 1, 1, none⟩ = some (.int .i64 (s.get 0).num) ∧ w'.cell? ⟨B + 1, 2, none⟩ = some (.int .i64 (s.get 0).v.due) ∧ w'.cell? ⟨B + 1, 3, none⟩ = some (.string (s.get 0).v.owner) ∧ w'.cell? ⟨B + 1, 4, none⟩ = some (.int .i64 (s.get 0).v.id)) (first | exact keepM _ rfl | exact keepM _ (storedM _ _ _)) (fail)
    go_wp2_with fail
    refine bodyPost_ret (v := .tuple #[.int .i64 (s.get 0).key, tmV (s.get 0).v, .int .i64 (s.get 0).num, .bool true]) (by simp [results, go_sem, tmV, *]) rfl ?_
    exact ⟨rfl, ((((((k1.trans k2 (fun _ _ x => x)).setCell (p := ⟨B, 0, none⟩) hup _).setCell (p := ⟨B, 1, none⟩) hup _).setCell (p := ⟨B, 2, none⟩) hup _).drew))⟩

end Go.Proofs.Ytofdcmbjcpfabaa
