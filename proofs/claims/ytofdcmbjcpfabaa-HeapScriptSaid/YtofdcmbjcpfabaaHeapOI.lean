/- Heap[int] as an object: what each call does to the things that it holds. -/
import Derived.Test.YtofdcmbjcpfabaaHeapXI
import Derived.Test.YtofdcmbjcpfabaaHeapInv
namespace Go.Proofs.Ytofdcmbjcpfabaa
open Go.RowKit Go.Maps Go.MapKept Go.ChangeMaps
attribute [local go_sem ↓] Go.wp_at_zero Go.wp_at_succ

/-- A heap at p, its blocks S, whose things are L (in whatever order), the next number next. -/
def IsHeapI (w : World) (p : Nat) (S : Nat → Prop) (L : List (Thing Int)) (next : Int) : Prop :=
  ∃ lv mb s, HMemI w p lv mb s next ∧ s.Ord ∧ s.a.Perm L ∧ (∀ x ∈ L, 0 ≤ x.num ∧ x.num < next) ∧ 0 ≤ next ∧ next ≤ 1000000000 ∧ L.length ≤ 1000000000 ∧ S = HFoot p lv mb

section
variable {w w' : World} {p : Nat} {S : Nat → Prop} {L : List (Thing Int)} {next : Int}

theorem IsHeapI.lt (h : IsHeapI w p S L next) : ∀ k, S k → k < w.heap.size := by
  obtain ⟨lv, mb, s, hm, _, _, _, _, _, _, rfl⟩ := h
  intro k hk
  rcases hk with rfl | rfl | hk
  · exact hm.lt.1
  · exact hm.lt.2.2
  · exact hm.lt.2.1 k hk

theorem IsHeapI.keep (h : IsHeapI w p S L next) {T : Nat → Prop} (hk : Keeps T w w') (hd : ∀ k, S k → ¬ T k) : IsHeapI w' p S L next := by
  obtain ⟨lv, mb, s, hm, h1, h2, h3, h4, h5, h6, rfl⟩ := h
  exact ⟨lv, mb, s, hm.keep hk hd, h1, h2, h3, h4, h5, h6, rfl⟩

theorem IsHeapI.perm (h : IsHeapI w p S L next) {L' : List (Thing Int)} (hp : L.Perm L') : IsHeapI w p S L' next := by
  obtain ⟨lv, mb, s, hm, h1, h2, h3, h4, h5, h6, rfl⟩ := h
  exact ⟨lv, mb, s, hm, h1, h2.trans hp, fun x hx => h3 x (hp.mem_iff.2 hx), h4, h5, by rw [← hp.length_eq]; exact h6, rfl⟩
end

theorem newI_o (w : World) :
    Calls Try.prog 50 #[] w fun e w' => ∃ p S, e = .returned (.pointer (some ⟨p, 0, none⟩)) ∧ IsHeapI w' p S [] 0 ∧ Moves NoBlk w S w' :=
  (newI_c w).mono fun e w' ⟨p, mb, he, hm, hk, h1, h2⟩ => ⟨p, _, he, ⟨_, mb, _, hm, ord_nil, List.Perm.refl _, by simp, by omega, by omega, by simp, rfl⟩, hk, fun k hs => by
    rcases hs with rfl | rfl | hs
    · exact .inr h1
    · exact .inr h2
    · cases hs⟩

theorem pushI_o (w : World) (p : Nat) (S : Nat → Prop) (L : List (Thing Int)) (next : Int) (h : IsHeapI w p S L next) (key : Int) (v : Int) (h1 : L.length < 1000000000) (h2 : next < 1000000000) :
    Calls Try.prog 51 #[.pointer (some ⟨p, 0, none⟩), .int .i64 key, .int .i64 v] w fun e w' =>
      e = .returned (.int .i64 next) ∧ ∃ S', IsHeapI w' p S' (⟨key, next, v⟩ :: L) (next + 1) ∧ Moves S w S' w' := by
  obtain ⟨lv, mb, s, hm, ho, hp, hn, hn0, hn1, hl, rfl⟩ := h
  refine (pushI_c w p mb lv s next hm key v (by rw [hp.length_eq]; omega) hn0 (by omega) (wf_all hp hn hn1)).mono ?_
  rintro e w' ⟨he, lv', hm', hf, hk⟩
  obtain ⟨q1, q2⟩ := ho.push ⟨key, next, v⟩ (fun j hj e => by have := (hn _ (get_mem hp hj)).2; simp only at e; omega)
  refine ⟨he, _, ⟨lv', mb, _, hm', q1, q2.trans (hp.cons _), ?_, by omega, by omega, by simp; omega, rfl⟩, hk, ?_⟩
  · intro x hx
    rcases List.mem_cons.1 hx with rfl | hx
    · exact ⟨hn0, by show next < next + 1; omega⟩
    · have := hn x hx; omega
  · intro k hs
    rcases hs with rfl | rfl | hs
    · exact .inl (.inl rfl)
    · exact .inl (.inr (.inl rfl))
    · exact (hf k hs).imp (fun x => .inr (.inr x)) id

theorem lenI_o (w : World) (p : Nat) (S : Nat → Prop) (L : List (Thing Int)) (next : Int) (h : IsHeapI w p S L next) :
    Calls Try.prog 30 #[.pointer (some ⟨p, 0, none⟩)] w fun e w' => e = .returned (.int .i64 L.length) ∧ w = w' := by
  obtain ⟨lv, mb, s, hm, ho, hp, hn, hn0, hn1, hl, rfl⟩ := h
  rw [← hp.length_eq]
  exact lenI_c w p mb lv s next hm

theorem peekI_o (w : World) (p : Nat) (S : Nat → Prop) (L : List (Thing Int)) (next : Int) (h : IsHeapI w p S L next) :
    Calls Try.prog 58 #[.pointer (some ⟨p, 0, none⟩)] w fun e w' =>
      ((L = [] ∧ e = .returned (.tuple #[.int .i64 0, .int .i64 0, .int .i64 0, .bool false])) ∨
       (∃ x, FirstOf x L ∧ e = .returned (.tuple #[.int .i64 x.key, .int .i64 x.v, .int .i64 x.num, .bool true]))) ∧ Gr w w' := by
  obtain ⟨lv, mb, s, hm, ho, hp, hn, hn0, hn1, hl, rfl⟩ := h
  refine (peekI_c w p mb lv s next hm).mono fun e w' ⟨he, hg⟩ => ⟨?_, hg⟩
  by_cases h0 : 0 < s.a.length
  · exact .inr ⟨s.get 0, first_get ho hp h0, by rw [he]; simp [h0]⟩
  · have hs : s.a = [] := List.length_eq_zero_iff.1 (by omega)
    refine .inl ⟨by rw [hs] at hp; exact hp.symm.eq_nil, ?_⟩
    rw [he, HS.get_of_ge _ _ (by omega)]
    simp [h0]; exact ⟨rfl, rfl, rfl⟩

set_option maxHeartbeats 1000000 in
theorem popI_o (w : World) (p : Nat) (S : Nat → Prop) (L : List (Thing Int)) (next : Int) (h : IsHeapI w p S L next) :
    Calls Try.prog 31 #[.pointer (some ⟨p, 0, none⟩)] w fun e w' =>
      ((L = [] ∧ e = .returned (.tuple #[.int .i64 0, .int .i64 0, .int .i64 0, .bool false]) ∧ IsHeapI w' p S L next) ∨
       (∃ x L', FirstOf x L ∧ L.Perm (x :: L') ∧ e = .returned (.tuple #[.int .i64 x.key, .int .i64 x.v, .int .i64 x.num, .bool true]) ∧ IsHeapI w' p S L' next)) ∧ Moves S w S w' := by
  have h0 := h
  obtain ⟨lv, mb, s, hm, ho, hp, hn, hn0, hn1, hl, rfl⟩ := h
  by_cases hs : 0 < s.a.length
  · have hd : decide (0 < s.a.length) = true := by simp [hs]
    obtain ⟨g, cap, rfl, hr⟩ := hm.raw.resolve_left (fun x => by rw [x.2] at hs; simp at hs)
    obtain ⟨q1, q2, q3, q4⟩ := ho.drop hs
    have hpk := peekI_c w p mb _ s next hm
    rw [hd] at hpk
    have hpk' : Calls Try.prog 58 #[.pointer (some ⟨p, 0, none⟩)] w fun e w' => e = .returned (.tuple #[.int .i64 (s.get 0).key, .int .i64 (s.get 0).v, .int .i64 (s.get 0).num, .bool true]) ∧ Gr w w' := hpk
    have q3' : (0 : Nat) ≠ s.a.length - 1 → s.where_ 0 < s.a.length - 1 ∧ (s.moved 0).m (s.get (s.a.length - 1)).num = some (s.where_ 0 : Int) := q3
    have hlen := hp.length_eq
    have hx := wf_all hp hn hn1
    have hxm : 0 ≠ s.a.length - 1 → ∀ j, (Lit.int .i64 ((s.moved 0).get j).num).wf = true := fun h j => by
      by_cases hj : j < (s.moved 0).a.length
      · have := hn _ (hp.mem_iff.1 (q4 h _ (get_mem (List.Perm.refl _) hj)))
        exact WalkArith.wf_i64 (by omega)
      · rw [HS.get_of_ge _ _ (by omega)]
        exact WalkArith.wf_i64 (by show (-9223372036854775808 : Int) ≤ 0 ∧ (0 : Int) ≤ 9223372036854775807; omega)
    clear hpk hd
    go_enter Try.func31, Try.ntmps31
    go_wp2_with fail
    refine hpk'.mono ?_
    rintro e w1 ⟨rfl, hg1⟩
    go_wp2_with fail
    refine (dropI_c w1 p g mb cap s next (hr.keep hg1.keeps id id id) 0 hs (by omega) hx hxm q3').mono ?_
    rintro e w2 ⟨rfl, h2, hk2⟩
    go_wp2_with fail
    refine bodyPost_ret (v := .tuple #[.int .i64 (s.get 0).key, .int .i64 (s.get 0).v, .int .i64 (s.get 0).num, .bool true]) (by simp [results, go_sem]) rfl ?_
    refine ⟨.inr ⟨s.get 0, (s.drop 0).a, first_get ho hp hs, hp.symm.trans q2.symm, rfl, _, mb, _, h2.mem, q1, List.Perm.refl _, fun x hx => hn x (hp.mem_iff.1 (q2.mem_iff.1 (List.mem_cons_of_mem _ hx))), hn0, hn1, ?_, rfl⟩, ?_⟩
    · have := q2.length_eq; simp at this; omega
    · refine ⟨hg1.keep.trans hk2 (fun k _ e => ?_), fun k hk => .inl hk⟩
      rcases e with rfl | rfl | rfl
      · exact .inl rfl
      · exact .inr (.inr rfl)
      · exact .inr (.inl rfl)
  · have hs0 : s.a = [] := List.length_eq_zero_iff.1 (by omega)
    have hpk := peekI_c w p mb lv s next hm
    rw [HS.get_of_ge _ _ (by omega), show decide (0 < s.a.length) = false by simp [hs0]] at hpk
    have hpk' : Calls Try.prog 58 #[.pointer (some ⟨p, 0, none⟩)] w fun e w' => e = .returned (.tuple #[.int .i64 0, .int .i64 0, .int .i64 0, .bool false]) ∧ Gr w w' := hpk
    clear hpk
    go_enter Try.func31, Try.ntmps31
    go_wp2_with fail
    refine hpk'.mono ?_
    rintro e w1 ⟨rfl, hg1⟩
    go_wp2_with fail
    refine bodyPost_ret (v := .tuple #[.int .i64 0, .int .i64 0, .int .i64 0, .bool false]) (by simp [results, go_sem]) rfl ?_
    exact ⟨.inl ⟨by rw [hs0] at hp; exact hp.symm.eq_nil, rfl, h0.keep hg1.keeps (fun _ _ x => x)⟩, hg1.keep, fun _ hk => .inl hk⟩

set_option maxHeartbeats 1000000 in
theorem removeI_o (w : World) (p : Nat) (S : Nat → Prop) (L : List (Thing Int)) (next : Int) (h : IsHeapI w p S L next) (n : Int) (hwn : (Lit.int .i64 n).wf = true) :
    Calls Try.prog 29 #[.pointer (some ⟨p, 0, none⟩), .int .i64 n] w fun e w' =>
      (((∀ x ∈ L, x.num ≠ n) ∧ e = .returned (.tuple #[.int .i64 0, .bool false]) ∧ IsHeapI w' p S L next) ∨
       (∃ x L', x.num = n ∧ L.Perm (x :: L') ∧ e = .returned (.tuple #[.int .i64 x.v, .bool true]) ∧ IsHeapI w' p S L' next)) ∧ Moves S w S w' := by
  have h0 := h
  obtain ⟨lv, mb, s, hm, ho, hp, hn, hn0, hn1, hl, rfl⟩ := h
  have hf := findI_c w p mb lv s next hm n hwn
  cases hmn : s.m n with
  | none =>
    rw [hmn] at hf
    have hf' : Calls Try.prog 93 #[.pointer (some ⟨p, 0, none⟩), .int .i64 n] w fun e w' => e = .returned (.tuple #[.int .i64 0, .bool false]) ∧ w = w' := hf
    have hno : ∀ x ∈ L, x.num ≠ n := fun x hx e => by
      obtain ⟨j, hj, e2⟩ := List.getElem_of_mem (hp.mem_iff.2 hx)
      have e3 : s.get j = x := by rw [← e2]; simp [HS.get, List.getD, hj]
      have := ho.pos j hj
      rw [e3, e, hmn] at this; cases this
    clear hf hmn
    go_enter Try.func29, Try.ntmps29
    go_wp2_with fail
    refine hf'.mono ?_
    rintro e w1 ⟨rfl, rfl⟩
    go_wp2_with fail
    go_ret2
    exact ⟨.inl ⟨hno, rfl, h0⟩, Moves.refl _ _⟩
  | some v =>
    obtain ⟨i, hi, rfl, hin⟩ := ho.back n v hmn
    rw [hmn] at hf
    have hf' : Calls Try.prog 93 #[.pointer (some ⟨p, 0, none⟩), .int .i64 n] w fun e w' => e = .returned (.tuple #[.int .i64 i, .bool true]) ∧ w = w' := hf
    obtain ⟨g, cap, rfl, hr⟩ := hm.raw.resolve_left (fun x => by rw [x.2] at hi; simp at hi)
    obtain ⟨q1, q2, q3, q4⟩ := ho.drop hi
    have hlen := hp.length_eq
    have hx := wf_all hp hn hn1
    have hxm : i ≠ s.a.length - 1 → ∀ j, (Lit.int .i64 ((s.moved i).get j).num).wf = true := fun h j => by
      by_cases hj : j < (s.moved i).a.length
      · have := hn _ (hp.mem_iff.1 (q4 h _ (get_mem (List.Perm.refl _) hj)))
        exact WalkArith.wf_i64 (by omega)
      · rw [HS.get_of_ge _ _ (by omega)]
        exact WalkArith.wf_i64 (by show (-9223372036854775808 : Int) ≤ 0 ∧ (0 : Int) ≤ 9223372036854775807; omega)
    obtain ⟨_, _, g2⟩ := hr.cell hi
    obtain ⟨_, c1, _, _⟩ := hr.fields
    have hi0 : (0 : Int) ≤ i := by omega
    have hi1 : (i : Int) < s.a.length := by omega
    have hin' : Hid ((s.get i).num = n) := hin
    clear hf hmn hin
    go_enter Try.func29, Try.ntmps29
    go_wp2_with fail
    refine hf'.mono ?_
    rintro e w1 ⟨rfl, rfl⟩
    go_wp2_with fail
    refine (dropI_c w p g mb cap s next hr i hi (by omega) hx hxm q3).mono ?_
    rintro e w2 ⟨rfl, h2, hk2⟩
    go_wp2_with fail
    go_ret2
    refine ⟨.inr ⟨s.get i, (s.drop i).a, hin'.out, hp.symm.trans q2.symm, rfl, _, mb, _, h2.mem, q1, List.Perm.refl _, fun x hx => hn x (hp.mem_iff.1 (q2.mem_iff.1 (List.mem_cons_of_mem _ hx))), hn0, hn1, ?_, rfl⟩, ?_⟩
    · have := q2.length_eq; simp at this; omega
    · refine ⟨hk2.mono (fun k _ e => ?_), fun k hk => .inl hk⟩
      rcases e with rfl | rfl | rfl
      · exact .inl rfl
      · exact .inr (.inr rfl)
      · exact .inr (.inl rfl)

set_option maxHeartbeats 2000000 in
theorem changeI_o (w : World) (p : Nat) (S : Nat → Prop) (L : List (Thing Int)) (next : Int) (h : IsHeapI w p S L next) (n key : Int) (hwn : (Lit.int .i64 n).wf = true) :
    Calls Try.prog 28 #[.pointer (some ⟨p, 0, none⟩), .int .i64 n, .int .i64 key] w fun e w' =>
      (((∀ x ∈ L, x.num ≠ n) ∧ e = .returned (.bool false) ∧ IsHeapI w' p S L next) ∨
       (∃ x L', x.num = n ∧ L.Perm (x :: L') ∧ e = .returned (.bool true) ∧ IsHeapI w' p S ({ x with key := key } :: L') next)) ∧ Moves S w S w' := by
  have h0 := h
  obtain ⟨lv, mb, s, hm, ho, hp, hn, hn0, hn1, hl, rfl⟩ := h
  have hf := findI_c w p mb lv s next hm n hwn
  cases hmn : s.m n with
  | none =>
    rw [hmn] at hf
    have hf' : Calls Try.prog 93 #[.pointer (some ⟨p, 0, none⟩), .int .i64 n] w fun e w' => e = .returned (.tuple #[.int .i64 0, .bool false]) ∧ w = w' := hf
    have hno : ∀ x ∈ L, x.num ≠ n := fun x hx e => by
      obtain ⟨j, hj, e2⟩ := List.getElem_of_mem (hp.mem_iff.2 hx)
      have e3 : s.get j = x := by rw [← e2]; simp [HS.get, List.getD, hj]
      have := ho.pos j hj
      rw [e3, e, hmn] at this; cases this
    clear hf hmn
    go_enter Try.func28, Try.ntmps28
    go_wp2_with fail
    refine hf'.mono ?_
    rintro e w1 ⟨rfl, rfl⟩
    go_wp2_with fail
    go_ret
    exact ⟨.inl ⟨hno, rfl, h0⟩, Moves.refl _ _⟩
  | some v =>
    obtain ⟨i, hi, rfl, hin⟩ := ho.back n v hmn
    rw [hmn] at hf
    have hf' : Calls Try.prog 93 #[.pointer (some ⟨p, 0, none⟩), .int .i64 n] w fun e w' => e = .returned (.tuple #[.int .i64 i, .bool true]) ∧ w = w' := hf
    obtain ⟨g, cap, rfl, hr⟩ := hm.raw.resolve_left (fun x => by rw [x.2] at hi; simp at hi)
    obtain ⟨q1, q2, q3, q4, q5⟩ := ho.change hi key
    have hlen := hp.length_eq
    have hx := wf_all hp hn hn1
    have hxm : ∀ j, (Lit.int .i64 ((s.sunk i key).get j).num).wf = true := fun j => by
      by_cases hj : j < (s.sunk i key).a.length
      · obtain ⟨y, hy, e⟩ := q5 _ (get_mem (List.Perm.refl _) hj)
        have := hn _ (hp.mem_iff.1 hy)
        exact WalkArith.wf_i64 (by omega)
      · rw [HS.get_of_ge _ _ (by omega)]
        exact WalkArith.wf_i64 (by show (-9223372036854775808 : Int) ≤ 0 ∧ (0 : Int) ≤ 9223372036854775807; omega)
    obtain ⟨g0, _, _⟩ := hr.cell hi
    obtain ⟨_, c1, _, _⟩ := hr.fields
    have f0 := hr.hg.frozen (i * 3)
    have hi0 : (0 : Int) ≤ i := by omega
    have hi1 : (i : Int) < s.a.length := by omega
    have hkl : (s.keyed i key).a.length = s.a.length := by simp [HS.keyed]
    have hkg : (s.keyed i key).get i = { s.get i with key := key } := by
      have := HS.get_lay s i { s.get i with key := key } i
      rw [if_pos ⟨rfl, hi⟩] at this
      exact this
    have hr2 : HRawI (w.setCell ⟨g, i * 3, none⟩ (.int .i64 key)) p g mb cap (s.keyed i key) next := by
      refine ⟨?_, ?_, ?_⟩
      · rw [Below.heap_setCell _ _ _ _ hr.ne.1, hkl]; exact hr.hp
      · have hgi : s.get i = s.a[i] := by simp [HS.get, List.getD, hi]
        have e1 : (s.a.flatMap encI)[i * 3 + 1]? = some (.int .i64 (s.get i).num) := by rw [flat_get encI 3 encI_len s.a i 1 hi (by omega), hgi]; rfl
        have e2 : (s.a.flatMap encI)[i * 3 + 2]? = some (.int .i64 (s.get i).v) := by rw [flat_get encI 3 encI_len s.a i 2 hi (by omega), hgi]; rfl
        have e3 : (s.a.set i { s.get i with key := key }).flatMap encI = (s.a.flatMap encI).set (i * 3) (.int .i64 key) := by
          rw [flat_set encI 3 encI_len s.a i _ hi]
          show (((s.a.flatMap encI).set (i * 3) (.int .i64 key)).set (i * 3 + 1) (.int .i64 (s.get i).num)).set (i * 3 + 2) (.int .i64 (s.get i).v) = _
          rw [set_same (j := i * 3 + 1), set_same (j := i * 3 + 2)]
          · rw [List.getElem?_set_ne (by omega)]; exact e2
          · rw [List.getElem?_set_ne (by omega)]; exact e1
        have h1 := (World.ownsRow.stored hr.hg (i * 3) (.int .i64 key)).1
        unfold RowAt RowV
        rw [show (s.keyed i key).a = s.a.set i { s.get i with key := key } from rfl, e3, List.length_set]
        exact h1
      · exact hr.hm.elim fun n hm => ⟨n, hm.at_block (Below.heap_setCell _ _ _ _ (Ne.symm hr.ne.2.2))⟩
    have hin' : Hid ((s.get i).num = n) := hin
    clear hf hmn hin
    go_enter Try.func28, Try.ntmps28
    go_wp2_with fail
    refine hf'.mono ?_
    rintro e w1 ⟨rfl, rfl⟩
    go_wp2_with fail
    refine (sinkI_c _ p g mb cap (s.keyed i key) next hr2 i (by omega) (by omega) ?wf).mono ?_
    case wf =>
      intro j
      have := HS.get_lay s i { s.get i with key := key } j
      show (Lit.int .i64 ((s.lay i { s.get i with key := key }).get j).num).wf = true
      rw [this]
      split
      · exact hx i
      · exact hx j
    rintro e w2 ⟨rfl, h2, hk2⟩
    rw [hkg] at h2
    have h2' : HRawI w2 p g mb cap (s.sunk i key) next := h2
    obtain ⟨_, _, x2, _⟩ := h2.fields
    obtain ⟨n6, hm6⟩ := h2'.hm
    rw [hin'.out] at q4
    have hl6 := hm6.look false keyI Try.underlying100 (zeroInt _ : (zeroValue 3).run Try.prog w2 = .ok (.int .i64 0) w2) intInj (keyOf_int_mk Try.underlying3 hwn)
    rw [if_neg (by simp), q4] at hl6
    simp only [Option.map_some, Option.getD_some] at hl6
    clear hm6 q4 h2
    go_wp2_with fail
    refine (riseI_c _ p g mb cap (s.sunk i key) next h2' (s.whereK i key) (by unfold HS.sunk; rw [HS.length_sink, hkl]; exact q3) hxm).mono ?_
    rintro e w3 ⟨rfl, h3, hk3⟩
    go_wp2_with fail
    go_ret
    have hgi : s.get i = s.a[i] := by simp [HS.get, List.getD, hi]
    obtain ⟨L', p1, p2⟩ := perm_set hi { s.get i with key := key }
    refine ⟨.inr ⟨s.get i, L', hin'.out, hp.symm.trans (by rw [hgi]; exact p1), rfl, _, mb, _, h3.mem, q1, q2.trans p2, fun x hx => ?_, hn0, hn1, ?_, rfl⟩, ?_, fun k hk => .inl hk⟩
    · rcases List.mem_cons.1 hx with rfl | hx
      · have := hn _ (get_mem hp hi)
        exact this
      · exact hn x (hp.mem_iff.1 (p1.mem_iff.2 (List.mem_cons_of_mem _ hx)))
    · have := p1.length_eq; simp at this ⊢; omega
    · have k1 : Keeps (fun k => k = g ∨ k = mb) w (w.setCell ⟨g, i * 3, none⟩ (.int .i64 key)) := (Keeps.refl _ _).setCell (p := ⟨g, i * 3, none⟩) (fun _ => .inl rfl) _
      refine ((k1.trans hk2 (fun _ _ x => x)).trans hk3 (fun _ _ x => x)).mono (fun k _ e => ?_)
      rcases e with rfl | rfl
      · exact .inr (.inr rfl)
      · exact .inr (.inl rfl)

end Go.Proofs.Ytofdcmbjcpfabaa
