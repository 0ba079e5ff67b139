/- Heap[api.Timer] as an object: what each call does to the things that it holds. -/
import Derived.Test.YtofdcmbjcpfabaaHeapPT
import Derived.Test.YtofdcmbjcpfabaaHeapInv
namespace Go.Proofs.Ytofdcmbjcpfabaa
open Go.RowKit Go.Maps Go.MapKept Go.ChangeMaps
attribute [local go_sem ↓] Go.wp_at_zero Go.wp_at_succ

/-- A heap at p, its blocks S, whose things are L (in whatever order), the next number next. -/
def IsHeapT (w : World) (p : Nat) (S : Nat → Prop) (L : List (Thing Tm)) (next : Int) : Prop :=
  ∃ lv mb s, HMemT w p lv mb s next ∧ s.Ord ∧ s.a.Perm L ∧ (∀ x ∈ L, 0 ≤ x.num ∧ x.num < next) ∧ 0 ≤ next ∧ next ≤ 1000000000 ∧ L.length ≤ 1000000000 ∧ S = HFoot p lv mb

section
variable {w w' : World} {p : Nat} {S : Nat → Prop} {L : List (Thing Tm)} {next : Int}

theorem IsHeapT.lt (h : IsHeapT w p S L next) : ∀ k, S k → k < w.heap.size := by
  obtain ⟨lv, mb, s, hm, _, _, _, _, _, _, rfl⟩ := h
  intro k hk
  rcases hk with rfl | rfl | hk
  · exact hm.lt.1
  · exact hm.lt.2.2
  · exact hm.lt.2.1 k hk

theorem IsHeapT.keep (h : IsHeapT w p S L next) {T : Nat → Prop} (hk : Keeps T w w') (hd : ∀ k, S k → ¬ T k) : IsHeapT w' p S L next := by
  obtain ⟨lv, mb, s, hm, h1, h2, h3, h4, h5, h6, rfl⟩ := h
  exact ⟨lv, mb, s, hm.keep hk hd, h1, h2, h3, h4, h5, h6, rfl⟩

theorem IsHeapT.perm (h : IsHeapT w p S L next) {L' : List (Thing Tm)} (hp : L.Perm L') : IsHeapT w p S L' next := by
  obtain ⟨lv, mb, s, hm, h1, h2, h3, h4, h5, h6, rfl⟩ := h
  exact ⟨lv, mb, s, hm, h1, h2.trans hp, fun x hx => h3 x (hp.mem_iff.2 hx), h4, h5, by rw [← hp.length_eq]; exact h6, rfl⟩
end

theorem newT_o (w : World) :
    Calls Try.prog 129 #[] w fun e w' => ∃ p S, e = .returned (.pointer (some ⟨p, 0, none⟩)) ∧ IsHeapT w' p S [] 0 ∧ Moves NoBlk w S w' :=
  (newT_c w).mono fun e w' ⟨p, mb, he, hm, hk, h1, h2⟩ => ⟨p, _, he, ⟨_, mb, _, hm, ord_nil, List.Perm.refl _, by simp, by omega, by omega, by simp, rfl⟩, hk, fun k hs => by
    rcases hs with rfl | rfl | hs
    · exact .inr h1
    · exact .inr h2
    · cases hs⟩

theorem pushT_o (w : World) (p : Nat) (S : Nat → Prop) (L : List (Thing Tm)) (next : Int) (h : IsHeapT w p S L next) (key : Int) (v : Tm) (h1 : L.length < 1000000000) (h2 : next < 1000000000) :
    Calls Try.prog 111 #[.pointer (some ⟨p, 0, none⟩), .int .i64 key, tmV v] w fun e w' =>
      e = .returned (.int .i64 next) ∧ ∃ S', IsHeapT w' p S' (⟨key, next, v⟩ :: L) (next + 1) ∧ Moves S w S' w' := by
  obtain ⟨lv, mb, s, hm, ho, hp, hn, hn0, hn1, hl, rfl⟩ := h
  refine (pushT_c w p mb lv s next hm key v (by rw [hp.length_eq]; omega) hn0 (by omega) (wf_all hp hn hn1)).mono ?_
  rintro e w' ⟨he, lv', hm', hf, hk⟩
  obtain ⟨q1, q2⟩ := ho.push ⟨key, next, v⟩ (fun j hj e => by have := (hn _ (get_mem hp hj)).2; simp only at e; omega)
  refine ⟨he, _, ⟨lv', mb, _, hm', q1, q2.trans (hp.cons _), ?_, by omega, by omega, by simp; omega, rfl⟩, hk, ?_⟩
  · intro x hx
    rcases List.mem_cons.1 hx with rfl | hx
    · exact ⟨hn0, by show next < next + 1; omega⟩
    · have := hn x hx; omega
  · intro k hs
    rcases hs with rfl | rfl | hs
    · exact .inl (.inl rfl)
    · exact .inl (.inr (.inl rfl))
    · exact (hf k hs).imp (fun x => .inr (.inr x)) id

theorem lenT_o (w : World) (p : Nat) (S : Nat → Prop) (L : List (Thing Tm)) (next : Int) (h : IsHeapT w p S L next) :
    Calls Try.prog 143 #[.pointer (some ⟨p, 0, none⟩)] w fun e w' => e = .returned (.int .i64 L.length) ∧ w = w' := by
  obtain ⟨lv, mb, s, hm, ho, hp, hn, hn0, hn1, hl, rfl⟩ := h
  rw [← hp.length_eq]
  exact lenT_c w p mb lv s next hm

theorem peekT_o (w : World) (p : Nat) (S : Nat → Prop) (L : List (Thing Tm)) (next : Int) (h : IsHeapT w p S L next) :
    Calls Try.prog 99 #[.pointer (some ⟨p, 0, none⟩)] w fun e w' =>
      ((L = [] ∧ e = .returned (.tuple #[.int .i64 0, tmV default, .int .i64 0, .bool false])) ∨
       (∃ x, FirstOf x L ∧ e = .returned (.tuple #[.int .i64 x.key, tmV x.v, .int .i64 x.num, .bool true]))) ∧ Keeps NoBlk w w' := by
  obtain ⟨lv, mb, s, hm, ho, hp, hn, hn0, hn1, hl, rfl⟩ := h
  refine (peekT_c w p mb lv s next hm).mono fun e w' ⟨he, hg⟩ => ⟨?_, hg⟩
  by_cases h0 : 0 < s.a.length
  · exact .inr ⟨s.get 0, first_get ho hp h0, by rw [he]; simp [h0]⟩
  · have hs : s.a = [] := List.length_eq_zero_iff.1 (by omega)
    refine .inl ⟨by rw [hs] at hp; exact hp.symm.eq_nil, ?_⟩
    rw [he, HS.get_of_ge _ _ (by omega)]
    simp [h0]; exact ⟨rfl, rfl, rfl⟩

/-- A timer's three cells, at the head of block B. -/
def TmAt (w : World) (B : Nat) (v : Tm) : Prop := w.heap[B]? = some (.cells #[.int .i64 v.due, .string v.owner, .int .i64 v.id] 53 (0, 0))

theorem TmAt.cells {w : World} {B : Nat} {v : Tm} (h : TmAt w B v) : w.cell? ⟨B, 0, none⟩ = some (.int .i64 v.due) ∧ w.cell? ⟨B, 1, none⟩ = some (.string v.owner) ∧ w.cell? ⟨B, 2, none⟩ = some (.int .i64 v.id) ∧
    w.frozen? ⟨B, 0, none⟩ = false ∧ w.frozen? ⟨B, 1, none⟩ = false ∧ w.frozen? ⟨B, 2, none⟩ = false :=
  ⟨by rw [cell_of_row _ _ _ _ _ _ h]; rfl, by rw [cell_of_row _ _ _ _ _ _ h]; rfl, by rw [cell_of_row _ _ _ _ _ _ h]; rfl, frozen_of_row _ _ _ _ _ h, frozen_of_row _ _ _ _ _ h, frozen_of_row _ _ _ _ _ h⟩

theorem TmAt.keep {w w' : World} {B : Nat} {v : Tm} (h : TmAt w B v) {S : Nat → Prop} (hk : Keeps S w w') (hS : ¬ S B) : TmAt w' B v :=
  (hk.block _ (block_lt h) hS).trans h

theorem TmAt.store {w : World} {B : Nat} {v : Tm} (h : TmAt w B v) (u : Tm) : TmAt (((w.setCell ⟨B, 0, none⟩ (.int .i64 u.due)).setCell ⟨B, 1, none⟩ (.string u.owner)).setCell ⟨B, 2, none⟩ (.int .i64 u.id)) B u := by
  unfold TmAt
  rw [heap_setCell_same _ _ _ _ _ _ (heap_setCell_same _ _ _ _ _ _ (heap_setCell_same _ _ _ _ _ _ h))]
  rfl

theorem TmAt.new (w : World) : TmAt (w.alloc (.cells #[.int .i64 0, .string ⟨#[]⟩, .int .i64 0] 53 (0, 0))) w.heap.size default := (heap_alloc_new _ _).trans (by rfl)

set_option maxRecDepth 100000 in
set_option maxHeartbeats 1000000 in
theorem popT_o (w : World) (p : Nat) (S : Nat → Prop) (L : List (Thing Tm)) (next : Int) (h : IsHeapT w p S L next) :
    Calls Try.prog 97 #[.pointer (some ⟨p, 0, none⟩)] w fun e w' =>
      ((L = [] ∧ e = .returned (.tuple #[.int .i64 0, tmV default, .int .i64 0, .bool false]) ∧ IsHeapT w' p S L next) ∨
       (∃ x L', FirstOf x L ∧ L.Perm (x :: L') ∧ e = .returned (.tuple #[.int .i64 x.key, tmV x.v, .int .i64 x.num, .bool true]) ∧ IsHeapT w' p S L' next)) ∧ Moves S w S w' := by
  have h0 := h
  obtain ⟨lv, mb, s, hm, ho, hp, hn, hn0, hn1, hl, rfl⟩ := h
  obtain ⟨B, hB⟩ : ∃ B, w.heap.size = B := ⟨_, rfl⟩
  have hfB : ¬ HFoot p lv mb B := fun x => by have := h0.lt B x; omega
  have kw : ∀ o, Keeps NoBlk w (w.alloc o) := fun o => (Keeps.refl _ _).alloc o
  have hpk : ∀ o, Calls Try.prog 99 #[.pointer (some ⟨p, 0, none⟩)] (w.alloc o) fun e w' => e = .returned (.tuple #[.int .i64 (s.get 0).key, .agg #[.int .i64 (s.get 0).v.due, .string (s.get 0).v.owner, .int .i64 (s.get 0).v.id], .int .i64 (s.get 0).num, .bool (decide (0 < s.a.length))]) ∧ Keeps NoBlk (w.alloc o) w' :=
    fun o => peekT_c (w.alloc o) p mb lv s next (hm.keep0 (kw o))
  have tB := TmAt.new w
  rw [hB] at tB
  by_cases hs : 0 < s.a.length
  · have hd : decide (0 < s.a.length) = true := by simp [hs]
    rw [hd] at hpk
    obtain ⟨g, cap, rfl, hr⟩ := hm.raw.resolve_left (fun x => by rw [x.2] at hs; simp at hs)
    obtain ⟨q1, q2, q3, q4⟩ := ho.drop hs
    have q3' : (0 : Nat) ≠ s.a.length - 1 → s.where_ 0 < s.a.length - 1 ∧ (s.moved 0).m (s.get (s.a.length - 1)).num = some (s.where_ 0 : Int) := q3
    have hlen := hp.length_eq
    have hx := wf_all hp hn hn1
    have hxm : 0 ≠ s.a.length - 1 → ∀ j, (Lit.int .i64 ((s.moved 0).get j).num).wf = true := fun h j => by
      by_cases hj : j < (s.moved 0).a.length
      · have := hn _ (hp.mem_iff.1 (q4 h _ (get_mem (List.Perm.refl _) hj)))
        exact WalkArith.wf_i64 (by omega)
      · rw [HS.get_of_ge _ _ (by omega)]
        exact WalkArith.wf_i64 (by show (-9223372036854775808 : Int) ≤ 0 ∧ (0 : Int) ≤ 9223372036854775807; omega)
    clear hd
    go_enter Try.func97, Try.ntmps97
    go_wp2_with fail
    refine (hpk _).mono ?_
    rintro e w1 ⟨rfl, hg1⟩
    have t1 := tB.keep hg1 id
    have k1 := (kw _).trans hg1 (fun _ _ x => x)
    obtain ⟨x0, x1, x2, y0, y1, y2⟩ := t1.cells
    have t2 := t1.store (s.get 0).v
    have k2 : Keeps (fun k => k = B) w1 _ := (((Keeps.refl (fun k => k = B) w1).setCell (p := ⟨B, 0, none⟩) (fun _ => rfl) (.int .i64 (s.get 0).v.due)).setCell (p := ⟨B, 1, none⟩) (fun _ => rfl) (.string (s.get 0).v.owner)).setCell (p := ⟨B, 2, none⟩) (fun _ => rfl) (.int .i64 (s.get 0).v.id)
    have r2 := (hr.keep k1 id id id).keep k2 (fun e => hfB (.inl e.symm)) (fun e => hfB (.inr (.inr (by rw [← e]; rfl)))) (fun e => hfB (.inr (.inl e.symm)))
    have hBB : ¬ B = p := fun e => hfB (.inl e)
    clear hpk tB t1 hg1
    go_wp2_with fail
    refine (dropT_c _ p g mb cap s next r2 0 hs (by omega) hx hxm q3').mono ?_
    rintro e w2 ⟨rfl, h2, hk2⟩
    have t3 := t2.keep hk2 (fun e => by
      rcases e with e | e | e
      · exact hfB (.inl e)
      · exact hfB (.inr (.inr (by rw [e]; rfl)))
      · exact hfB (.inr (.inl e)))
    obtain ⟨z0, z1, z2, _⟩ := t3.cells
    go_wp2_with fail
    refine bodyPost_ret (v := .tuple #[.int .i64 (s.get 0).key, tmV (s.get 0).v, .int .i64 (s.get 0).num, .bool true]) (by simp [results, go_sem, tmV, *]) rfl ?_
    refine ⟨.inr ⟨s.get 0, (s.drop 0).a, first_get ho hp hs, hp.symm.trans q2.symm, rfl, _, mb, _, h2.mem, q1, List.Perm.refl _, fun x hx => hn x (hp.mem_iff.1 (q2.mem_iff.1 (List.mem_cons_of_mem _ hx))), hn0, hn1, ?_, rfl⟩, ?_⟩
    · have := q2.length_eq; simp at this; omega
    · have k3 : Keeps (HFoot p (.slice (some ⟨g, 0, none⟩) s.a.length cap) mb) w _ := (k1.of_none).trans k2 (fun i hi e => by omega)
      refine ⟨k3.trans hk2 (fun k _ e => ?_), fun k hk => .inl hk⟩
      rcases e with rfl | rfl | rfl
      · exact .inl rfl
      · exact .inr (.inr rfl)
      · exact .inr (.inl rfl)
  · have hs0 : s.a = [] := List.length_eq_zero_iff.1 (by omega)
    rw [HS.get_of_ge _ _ (by omega), show decide (0 < s.a.length) = false by simp [hs0]] at hpk
    have hpk' : ∀ o, Calls Try.prog 99 #[.pointer (some ⟨p, 0, none⟩)] (w.alloc o) fun e w' => e = .returned (.tuple #[.int .i64 0, .agg #[.int .i64 0, .string ⟨#[]⟩, .int .i64 0], .int .i64 0, .bool false]) ∧ Keeps NoBlk (w.alloc o) w' := hpk
    clear hpk
    go_enter Try.func97, Try.ntmps97
    go_wp2_with fail
    refine (hpk' _).mono ?_
    rintro e w1 ⟨rfl, hg1⟩
    have t1 := tB.keep hg1 id
    have k1 := (kw _).trans hg1 (fun _ _ x => x)
    obtain ⟨x0, x1, x2, y0, y1, y2⟩ := t1.cells
    have t2 := t1.store default
    have k2 : Keeps (fun k => k = B) w1 _ := (((Keeps.refl (fun k => k = B) w1).setCell (p := ⟨B, 0, none⟩) (fun _ => rfl) (.int .i64 0)).setCell (p := ⟨B, 1, none⟩) (fun _ => rfl) (.string ⟨#[]⟩)).setCell (p := ⟨B, 2, none⟩) (fun _ => rfl) (.int .i64 0)
    obtain ⟨z0, z1, z2, _⟩ := t2.cells
    have k3 := k1.trans k2 (fun i hi e => by omega)
    clear tB t1 hg1 hpk'
    go_wp2_with fail
    refine bodyPost_ret (v := .tuple #[.int .i64 0, .agg #[.int .i64 0, .string ⟨#[]⟩, .int .i64 0], .int .i64 0, .bool false]) (by simp [results, go_sem, *]) rfl ?_
    exact ⟨.inl ⟨by rw [hs0] at hp; exact hp.symm.eq_nil, rfl, h0.keep k3 (fun _ _ x => x)⟩, k3.of_none, fun _ hk => .inl hk⟩

set_option maxRecDepth 100000 in
set_option maxHeartbeats 1000000 in
theorem removeT_o (w : World) (p : Nat) (S : Nat → Prop) (L : List (Thing Tm)) (next : Int) (h : IsHeapT w p S L next) (n : Int) (hwn : (Lit.int .i64 n).wf = true) :
    Calls Try.prog 103 #[.pointer (some ⟨p, 0, none⟩), .int .i64 n] w fun e w' =>
      (((∀ x ∈ L, x.num ≠ n) ∧ e = .returned (.tuple #[tmV default, .bool false]) ∧ IsHeapT w' p S L next) ∨
       (∃ x L', x.num = n ∧ L.Perm (x :: L') ∧ e = .returned (.tuple #[tmV x.v, .bool true]) ∧ IsHeapT w' p S L' next)) ∧ Moves S w S w' := by
  have h0 := h
  obtain ⟨lv, mb, s, hm, ho, hp, hn, hn0, hn1, hl, rfl⟩ := h
  obtain ⟨B, hB⟩ : ∃ B, w.heap.size = B := ⟨_, rfl⟩
  have hfB : ¬ HFoot p lv mb B := fun x => by have := h0.lt B x; omega
  have kw : ∀ o, Keeps NoBlk w (w.alloc o) := fun o => (Keeps.refl _ _).alloc o
  have hf : ∀ o, Calls Try.prog 144 #[.pointer (some ⟨p, 0, none⟩), .int .i64 n] (w.alloc o) fun e w' => e = .returned (.tuple #[.int .i64 ((s.m n).getD 0), .bool (s.m n).isSome]) ∧ w.alloc o = w' :=
    fun o => findT_c (w.alloc o) p mb lv s next (hm.keep0 (kw o)) n hwn
  have tB := TmAt.new w
  rw [hB] at tB
  have hBB : ¬ B = p := fun e => hfB (.inl e)
  cases hmn : s.m n with
  | none =>
    rw [hmn] at hf
    have hf' : ∀ o, Calls Try.prog 144 #[.pointer (some ⟨p, 0, none⟩), .int .i64 n] (w.alloc o) fun e w' => e = .returned (.tuple #[.int .i64 0, .bool false]) ∧ w.alloc o = w' := hf
    have hno : ∀ x ∈ L, x.num ≠ n := fun x hx e => by
      obtain ⟨j, hj, e2⟩ := List.getElem_of_mem (hp.mem_iff.2 hx)
      have e3 : s.get j = x := by rw [← e2]; simp [HS.get, List.getD, hj]
      have := ho.pos j hj
      rw [e3, e, hmn] at this; cases this
    clear hf hmn
    go_enter Try.func103, Try.ntmps103
    go_wp2_with fail
    refine (hf' _).mono ?_
    rintro e w1 ⟨rfl, hw1⟩
    have t1 : TmAt w1 B default := by subst hw1; exact tB
    have k1 : Keeps NoBlk w w1 := by subst hw1; exact kw _
    obtain ⟨x0, x1, x2, y0, y1, y2⟩ := t1.cells
    have t2 := t1.store default
    have k2 : Keeps (fun k => k = B) w1 _ := (((Keeps.refl (fun k => k = B) w1).setCell (p := ⟨B, 0, none⟩) (fun _ => rfl) (.int .i64 0)).setCell (p := ⟨B, 1, none⟩) (fun _ => rfl) (.string ⟨#[]⟩)).setCell (p := ⟨B, 2, none⟩) (fun _ => rfl) (.int .i64 0)
    obtain ⟨z0, z1, z2, _⟩ := t2.cells
    have k3 := k1.trans k2 (fun i hi e => by omega)
    have d0 : (default : Tm).due = 0 := rfl
    have d1 : (default : Tm).owner = ⟨#[]⟩ := rfl
    have d2 : (default : Tm).id = 0 := rfl
    rw [d0] at x0 z0
    rw [d1] at x1 z1
    rw [d2] at x2 z2
    clear tB t1 hw1 hf'
    go_wp2_with fail
    refine bodyPost_ret (v := .tuple #[.agg #[.int .i64 0, .string ⟨#[]⟩, .int .i64 0], .bool false]) (by simp [results, go_sem, *]) rfl ?_
    exact ⟨.inl ⟨hno, rfl, h0.keep k3 (fun _ _ x => x)⟩, k3.of_none, fun _ hk => .inl hk⟩
  | some v =>
    obtain ⟨i, hi, rfl, hin⟩ := ho.back n v hmn
    rw [hmn] at hf
    have hf' : ∀ o, Calls Try.prog 144 #[.pointer (some ⟨p, 0, none⟩), .int .i64 n] (w.alloc o) fun e w' => e = .returned (.tuple #[.int .i64 i, .bool true]) ∧ w.alloc o = w' := hf
    obtain ⟨g, cap, rfl, hr⟩ := hm.raw.resolve_left (fun x => by rw [x.2] at hi; simp at hi)
    obtain ⟨q1, q2, q3, q4⟩ := ho.drop hi
    have hlen := hp.length_eq
    have hx := wf_all hp hn hn1
    have hxm : i ≠ s.a.length - 1 → ∀ j, (Lit.int .i64 ((s.moved i).get j).num).wf = true := fun h j => by
      by_cases hj : j < (s.moved i).a.length
      · have := hn _ (hp.mem_iff.1 (q4 h _ (get_mem (List.Perm.refl _) hj)))
        exact WalkArith.wf_i64 (by omega)
      · rw [HS.get_of_ge _ _ (by omega)]
        exact WalkArith.wf_i64 (by show (-9223372036854775808 : Int) ≤ 0 ∧ (0 : Int) ≤ 9223372036854775807; omega)
    have hi0 : (0 : Int) ≤ i := by omega
    have hi1 : (i : Int) < s.a.length := by omega
    have hin' : Hid ((s.get i).num = n) := hin
    clear hf hmn hin
    go_enter Try.func103, Try.ntmps103
    go_wp2_with fail
    refine (hf' _).mono ?_
    rintro e w1 ⟨rfl, hw1⟩
    have t1 : TmAt w1 B default := by subst hw1; exact tB
    have k1 : Keeps NoBlk w w1 := by subst hw1; exact kw _
    have r1 := hr.keep k1 id id id
    obtain ⟨_, _, g2, g3, g4⟩ := r1.cell hi
    obtain ⟨_, c1, _, _⟩ := r1.fields
    obtain ⟨x0, x1, x2, y0, y1, y2⟩ := t1.cells
    have t2 := t1.store (s.get i).v
    have k2 : Keeps (fun k => k = B) w1 _ := (((Keeps.refl (fun k => k = B) w1).setCell (p := ⟨B, 0, none⟩) (fun _ => rfl) (.int .i64 (s.get i).v.due)).setCell (p := ⟨B, 1, none⟩) (fun _ => rfl) (.string (s.get i).v.owner)).setCell (p := ⟨B, 2, none⟩) (fun _ => rfl) (.int .i64 (s.get i).v.id)
    have r2 := r1.keep k2 (fun e => hfB (.inl e.symm)) (fun e => hfB (.inr (.inr (by rw [← e]; rfl)))) (fun e => hfB (.inr (.inl e.symm)))
    clear tB t1 hw1 hf'
    go_wp2_with fail
    refine (dropT_c _ p g mb cap s next r2 i hi (by omega) hx hxm q3).mono ?_
    rintro e w2 ⟨rfl, h2, hk2⟩
    have t3 := t2.keep hk2 (fun e => by
      rcases e with e | e | e
      · exact hfB (.inl e)
      · exact hfB (.inr (.inr (by rw [e]; rfl)))
      · exact hfB (.inr (.inl e)))
    obtain ⟨z0, z1, z2, v0, v1, v2⟩ := t3.cells
    have t4 := t3.store (s.get i).v
    have k4 : Keeps (fun k => k = B) w2 _ := (((Keeps.refl (fun k => k = B) w2).setCell (p := ⟨B, 0, none⟩) (fun _ => rfl) (.int .i64 (s.get i).v.due)).setCell (p := ⟨B, 1, none⟩) (fun _ => rfl) (.string (s.get i).v.owner)).setCell (p := ⟨B, 2, none⟩) (fun _ => rfl) (.int .i64 (s.get i).v.id)
    obtain ⟨j0, j1, j2, _⟩ := t4.cells
    go_wp2_with fail
    refine bodyPost_ret (v := .tuple #[tmV (s.get i).v, .bool true]) (by simp [results, go_sem, tmV, *]) rfl ?_
    have k3 : Keeps (HFoot p (.slice (some ⟨g, 0, none⟩) s.a.length cap) mb) w _ := (k1.of_none).trans k2 (fun i hi e => by omega)
    have h4 := h2.keep k4 (fun e => hfB (.inl e.symm)) (fun e => hfB (.inr (.inr (by rw [← e]; rfl)))) (fun e => hfB (.inr (.inl e.symm)))
    refine ⟨.inr ⟨s.get i, (s.drop i).a, hin'.out, hp.symm.trans q2.symm, rfl, _, mb, _, h4.mem, q1, List.Perm.refl _, fun x hx => hn x (hp.mem_iff.1 (q2.mem_iff.1 (List.mem_cons_of_mem _ hx))), hn0, hn1, ?_, rfl⟩, ?_⟩
    · have := q2.length_eq; simp at this; omega
    · refine ⟨(k3.trans hk2 (fun k _ e => ?_)).trans k4 (fun k hk e => by omega), fun k hk => .inl hk⟩
      rcases e with rfl | rfl | rfl
      · exact .inl rfl
      · exact .inr (.inr rfl)
      · exact .inr (.inl rfl)

end Go.Proofs.Ytofdcmbjcpfabaa
