/- Heap[string] as an object: what each call does to the things that it holds. -/
import Derived.Test.YtofdcmbjcpfabaaHeapXS
import Derived.Test.YtofdcmbjcpfabaaHeapInv
namespace Go.Proofs.Ytofdcmbjcpfabaa
open Go.RowKit Go.Maps Go.MapKept Go.ChangeMaps
attribute [local go_sem ↓] Go.wp_at_zero Go.wp_at_succ

/-- A heap at p, its blocks S, whose things are L (in whatever order), the next number next. -/
def IsHeapS (w : World) (p : Nat) (S : Nat → Prop) (L : List (Thing ByteArray)) (next : Int) : Prop :=
  ∃ lv mb s, HMemS w p lv mb s next ∧ s.Ord ∧ s.a.Perm L ∧ (∀ x ∈ L, 0 ≤ x.num ∧ x.num < next) ∧ 0 ≤ next ∧ next ≤ 1000000000 ∧ L.length ≤ 1000000000 ∧ S = HFoot p lv mb

section
variable {w w' : World} {p : Nat} {S : Nat → Prop} {L : List (Thing ByteArray)} {next : Int}

theorem IsHeapS.lt (h : IsHeapS w p S L next) : ∀ k, S k → k < w.heap.size := by
  obtain ⟨lv, mb, s, hm, _, _, _, _, _, _, rfl⟩ := h
  intro k hk
  rcases hk with rfl | rfl | hk
  · exact hm.lt.1
  · exact hm.lt.2.2
  · exact hm.lt.2.1 k hk

theorem IsHeapS.keep (h : IsHeapS w p S L next) {T : Nat → Prop} (hk : Keeps T w w') (hd : ∀ k, S k → ¬ T k) : IsHeapS w' p S L next := by
  obtain ⟨lv, mb, s, hm, h1, h2, h3, h4, h5, h6, rfl⟩ := h
  exact ⟨lv, mb, s, hm.keep hk hd, h1, h2, h3, h4, h5, h6, rfl⟩

theorem IsHeapS.perm (h : IsHeapS w p S L next) {L' : List (Thing ByteArray)} (hp : L.Perm L') : IsHeapS w p S L' next := by
  obtain ⟨lv, mb, s, hm, h1, h2, h3, h4, h5, h6, rfl⟩ := h
  exact ⟨lv, mb, s, hm, h1, h2.trans hp, fun x hx => h3 x (hp.mem_iff.2 hx), h4, h5, by rw [← hp.length_eq]; exact h6, rfl⟩
end

theorem newS_o (w : World) :
    Calls Try.prog 89 #[] w fun e w' => ∃ p S, e = .returned (.pointer (some ⟨p, 0, none⟩)) ∧ IsHeapS w' p S [] 0 ∧ Moves NoBlk w S w' :=
  (newS_c w).mono fun e w' ⟨p, mb, he, hm, hk, h1, h2⟩ => ⟨p, _, he, ⟨_, mb, _, hm, ord_nil, List.Perm.refl _, by simp, by omega, by omega, by simp, rfl⟩, hk, fun k hs => by
    rcases hs with rfl | rfl | hs
    · exact .inr h1
    · exact .inr h2
    · cases hs⟩

theorem pushS_o (w : World) (p : Nat) (S : Nat → Prop) (L : List (Thing ByteArray)) (next : Int) (h : IsHeapS w p S L next) (key : Int) (v : ByteArray) (h1 : L.length < 1000000000) (h2 : next < 1000000000) :
    Calls Try.prog 90 #[.pointer (some ⟨p, 0, none⟩), .int .i64 key, .string v] w fun e w' =>
      e = .returned (.int .i64 next) ∧ ∃ S', IsHeapS w' p S' (⟨key, next, v⟩ :: L) (next + 1) ∧ Moves S w S' w' := by
  obtain ⟨lv, mb, s, hm, ho, hp, hn, hn0, hn1, hl, rfl⟩ := h
  refine (pushS_c w p mb lv s next hm key v (by rw [hp.length_eq]; omega) hn0 (by omega) (wf_all hp hn hn1)).mono ?_
  rintro e w' ⟨he, lv', hm', hf, hk⟩
  obtain ⟨q1, q2⟩ := ho.push ⟨key, next, v⟩ (fun j hj e => by have := (hn _ (get_mem hp hj)).2; simp only at e; omega)
  refine ⟨he, _, ⟨lv', mb, _, hm', q1, q2.trans (hp.cons _), ?_, by omega, by omega, by simp; omega, rfl⟩, hk, ?_⟩
  · intro x hx
    rcases List.mem_cons.1 hx with rfl | hx
    · exact ⟨hn0, by show next < next + 1; omega⟩
    · have := hn x hx; omega
  · intro k hs
    rcases hs with rfl | rfl | hs
    · exact .inl (.inl rfl)
    · exact .inl (.inr (.inl rfl))
    · exact (hf k hs).imp (fun x => .inr (.inr x)) id

theorem lenS_o (w : World) (p : Nat) (S : Nat → Prop) (L : List (Thing ByteArray)) (next : Int) (h : IsHeapS w p S L next) :
    Calls Try.prog 92 #[.pointer (some ⟨p, 0, none⟩)] w fun e w' => e = .returned (.int .i64 L.length) ∧ w = w' := by
  obtain ⟨lv, mb, s, hm, ho, hp, hn, hn0, hn1, hl, rfl⟩ := h
  rw [← hp.length_eq]
  exact lenS_c w p mb lv s next hm

theorem peekS_o (w : World) (p : Nat) (S : Nat → Prop) (L : List (Thing ByteArray)) (next : Int) (h : IsHeapS w p S L next) :
    Calls Try.prog 138 #[.pointer (some ⟨p, 0, none⟩)] w fun e w' =>
      ((L = [] ∧ e = .returned (.tuple #[.int .i64 0, .string ⟨#[]⟩, .int .i64 0, .bool false])) ∨
       (∃ x, FirstOf x L ∧ e = .returned (.tuple #[.int .i64 x.key, .string x.v, .int .i64 x.num, .bool true]))) ∧ Gr w w' := by
  obtain ⟨lv, mb, s, hm, ho, hp, hn, hn0, hn1, hl, rfl⟩ := h
  refine (peekS_c w p mb lv s next hm).mono fun e w' ⟨he, hg⟩ => ⟨?_, hg⟩
  by_cases h0 : 0 < s.a.length
  · exact .inr ⟨s.get 0, first_get ho hp h0, by rw [he]; simp [h0]⟩
  · have hs : s.a = [] := List.length_eq_zero_iff.1 (by omega)
    refine .inl ⟨by rw [hs] at hp; exact hp.symm.eq_nil, ?_⟩
    rw [he, HS.get_of_ge _ _ (by omega)]
    simp [h0]; exact ⟨rfl, rfl, rfl⟩

set_option maxHeartbeats 1000000 in
theorem popS_o (w : World) (p : Nat) (S : Nat → Prop) (L : List (Thing ByteArray)) (next : Int) (h : IsHeapS w p S L next) :
    Calls Try.prog 91 #[.pointer (some ⟨p, 0, none⟩)] w fun e w' =>
      ((L = [] ∧ e = .returned (.tuple #[.int .i64 0, .string ⟨#[]⟩, .int .i64 0, .bool false]) ∧ IsHeapS w' p S L next) ∨
       (∃ x L', FirstOf x L ∧ L.Perm (x :: L') ∧ e = .returned (.tuple #[.int .i64 x.key, .string x.v, .int .i64 x.num, .bool true]) ∧ IsHeapS w' p S L' next)) ∧ Moves S w S w' := by
  have h0 := h
  obtain ⟨lv, mb, s, hm, ho, hp, hn, hn0, hn1, hl, rfl⟩ := h
  by_cases hs : 0 < s.a.length
  · have hd : decide (0 < s.a.length) = true := by simp [hs]
    obtain ⟨g, cap, rfl, hr⟩ := hm.raw.resolve_left (fun x => by rw [x.2] at hs; simp at hs)
    obtain ⟨q1, q2, q3, q4⟩ := ho.drop hs
    have hpk := peekS_c w p mb _ s next hm
    rw [hd] at hpk
    have hpk' : Calls Try.prog 138 #[.pointer (some ⟨p, 0, none⟩)] w fun e w' => e = .returned (.tuple #[.int .i64 (s.get 0).key, .string (s.get 0).v, .int .i64 (s.get 0).num, .bool true]) ∧ Gr w w' := hpk
    have q3' : (0 : Nat) ≠ s.a.length - 1 → s.where_ 0 < s.a.length - 1 ∧ (s.moved 0).m (s.get (s.a.length - 1)).num = some (s.where_ 0 : Int) := q3
    have hlen := hp.length_eq
    have hx := wf_all hp hn hn1
    have hxm : 0 ≠ s.a.length - 1 → ∀ j, (Lit.int .i64 ((s.moved 0).get j).num).wf = true := fun h j => by
      by_cases hj : j < (s.moved 0).a.length
      · have := hn _ (hp.mem_iff.1 (q4 h _ (get_mem (List.Perm.refl _) hj)))
        exact WalkArith.wf_i64 (by omega)
      · rw [HS.get_of_ge _ _ (by omega)]
        exact WalkArith.wf_i64 (by show (-9223372036854775808 : Int) ≤ 0 ∧ (0 : Int) ≤ 9223372036854775807; omega)
    clear hpk hd
    go_enter Try.func91, Try.ntmps91
    go_wp2_with fail
    refine hpk'.mono ?_
    rintro e w1 ⟨rfl, hg1⟩
    go_wp2_with fail
    refine (dropS_c w1 p g mb cap s next (hr.keep hg1.keeps id id id) 0 hs (by omega) hx hxm q3').mono ?_
    rintro e w2 ⟨rfl, h2, hk2⟩
    go_wp2_with fail
    refine bodyPost_ret (v := .tuple #[.int .i64 (s.get 0).key, .string (s.get 0).v, .int .i64 (s.get 0).num, .bool true]) (by simp [results, go_sem]) rfl ?_
    refine ⟨.inr ⟨s.get 0, (s.drop 0).a, first_get ho hp hs, hp.symm.trans q2.symm, rfl, _, mb, _, h2.mem, q1, List.Perm.refl _, fun x hx => hn x (hp.mem_iff.1 (q2.mem_iff.1 (List.mem_cons_of_mem _ hx))), hn0, hn1, ?_, rfl⟩, ?_⟩
    · have := q2.length_eq; simp at this; omega
    · refine ⟨hg1.keep.trans hk2 (fun k _ e => ?_), fun k hk => .inl hk⟩
      rcases e with rfl | rfl | rfl
      · exact .inl rfl
      · exact .inr (.inr rfl)
      · exact .inr (.inl rfl)
  · have hs0 : s.a = [] := List.length_eq_zero_iff.1 (by omega)
    have hpk := peekS_c w p mb lv s next hm
    rw [HS.get_of_ge _ _ (by omega), show decide (0 < s.a.length) = false by simp [hs0]] at hpk
    have hpk' : Calls Try.prog 138 #[.pointer (some ⟨p, 0, none⟩)] w fun e w' => e = .returned (.tuple #[.int .i64 0, .string ⟨#[]⟩, .int .i64 0, .bool false]) ∧ Gr w w' := hpk
    clear hpk
    go_enter Try.func91, Try.ntmps91
    go_wp2_with fail
    refine hpk'.mono ?_
    rintro e w1 ⟨rfl, hg1⟩
    go_wp2_with fail
    refine bodyPost_ret (v := .tuple #[.int .i64 0, .string ⟨#[]⟩, .int .i64 0, .bool false]) (by simp [results, go_sem]) rfl ?_
    exact ⟨.inl ⟨by rw [hs0] at hp; exact hp.symm.eq_nil, rfl, h0.keep hg1.keeps (fun _ _ x => x)⟩, hg1.keep, fun _ hk => .inl hk⟩

end Go.Proofs.Ytofdcmbjcpfabaa
