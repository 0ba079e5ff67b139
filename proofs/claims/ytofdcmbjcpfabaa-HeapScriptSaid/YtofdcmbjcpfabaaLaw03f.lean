/- HeapScript: what its loop keeps. -/
import Derived.Test.YtofdcmbjcpfabaaLaw03e
namespace Go.Proofs.Ytofdcmbjcpfabaa
open Go.RowKit Go.Maps Go.MapKept Go.ChangeMaps
attribute [local go_sem ↓] Go.wp_at_zero Go.wp_at_succ

/-- The heap and its reference hold the same things. -/
structure ScW (w wr : World) (p : Nat) (S : Nat → Prop) (rp : Nat) (T : Nat → Prop) (R : List (Thing Int)) (next : Int) (i : Nat) : Prop where
  kp : Keeps NoBlk w wr
  hh : IsHeapI wr p S R next
  rr : IsRef wr rp T R next
  dis : ∀ k, S k → ¬ T k
  upS : ∀ k, S k → w.heap.size ≤ k
  upT : ∀ k, T k → w.heap.size ≤ k
  rise : R.Pairwise (fun x y => x.num < y.num)
  len : R.length ≤ i
  nx : next ≤ i

theorem IsHeapI.rng {w : World} {p : Nat} {S : Nat → Prop} {L : List (Thing Int)} {n : Int} (h : IsHeapI w p S L n) : (∀ x ∈ L, 0 ≤ x.num ∧ x.num < n) ∧ 0 ≤ n := by
  obtain ⟨_, _, _, _, _, _, h1, h2, _⟩ := h; exact ⟨h1, h2⟩

variable {w wr w2 w3 : World} {p p2 rp i : Nat} {S S2 T T3 : Nat → Prop} {R R2 L2 : List (Thing Int)} {next next2 : Int}

theorem ScW.refAt (h : ScW w wr p S rp T R next i) (m2 : Moves S wr S2 w2) : IsRef w2 rp T R next := h.rr.keep m2.keeps (fun k hk hs => h.dis k hs hk)

theorem ScW.step (h : ScW w wr p S rp T R next i) (m2 : Moves S wr S2 w2) (h2 : IsHeapI w2 p2 S2 L2 next2) (m3 : Moves T w2 T3 w3) (h3 : IsRef w3 rp T3 R2 next2) (hp : L2.Perm R2) (hr : R2.Pairwise (fun x y => x.num < y.num)) (hl : R2.length ≤ i + 1) (hn : next2 ≤ i + 1) :
    ScW w w3 p2 S2 rp T3 R2 next2 (i + 1) := by
  have hTl := h.rr.lt
  have d1 : ∀ k, S2 k → ¬ T k := m2.apart hTl h.dis
  have d2 : ∀ k, T3 k → ¬ S2 k := m3.apart h2.lt (fun k hk hs => d1 k hs hk)
  have k1 : Keeps NoBlk w w2 := h.kp.trans m2.keeps (fun k hk hs => by have := h.upS k hs; omega)
  refine ⟨k1.trans m3.keeps (fun k hk hs => by have := h.upT k hs; omega), (h2.keep m3.keeps (fun k hk ht => d1 k hk ht)).perm hp, h3, fun k hk ht => d2 k ht hk, fun k hk => ?_, fun k hk => ?_, hr, hl, by simpa using hn⟩
  · rcases m2.foot k hk with e | e
    · exact h.upS k e
    · exact Nat.le_trans h.kp.size e
  · rcases m3.foot k hk with e | e
    · exact h.upT k e
    · exact Nat.le_trans k1.size e

/-- Only reads, and memory of one's own. -/
theorem ScW.keep (h : ScW w wr p S rp T R next i) (hk : Keeps NoBlk wr w2) : ScW w w2 p S rp T R next i :=
  ⟨h.kp.trans hk (fun _ _ x => x), h.hh.keep hk (fun _ _ x => x), h.rr.keep hk (fun _ _ x => x), h.dis, h.upS, h.upT, h.rise, h.len, h.nx⟩

/-- The two find the same thing under a number. -/
theorem same_num (hr : R.Pairwise (fun x y => x.num < y.num)) {j : Nat} (hj : j < R.length) {x : Thing Int} (hx : x ∈ R) (h : x.num = R[j].num) : x = R[j] := by
  obtain ⟨m, hm⟩ := List.mem_iff_getElem?.1 hx
  have hml := (List.getElem?_eq_some_iff.1 hm).1
  rw [List.getElem?_eq_getElem hml] at hm
  have e := Option.some.inj hm
  rcases Nat.lt_trichotomy m j with a | a | a
  · have := List.pairwise_iff_getElem.1 hr m j hml hj a
    rw [e] at this; omega
  · subst a; exact e.symm
  · have := List.pairwise_iff_getElem.1 hr j m hj hml a
    rw [e] at this; omega

/-- What is first is first in both. -/
theorem same_first (hr : R.Pairwise (fun x y => x.num < y.num)) {j : Nat} (hj : j < R.length) (hF : FirstN R R.length j) {x : Thing Int} (hx : FirstOf x R) : x = R[j] := by
  have hf := first_of_n hr hj hF
  have a1 := hx.2 _ hf.1
  have a2 := hf.2 _ hx.1
  refine same_num hr hj hx.1 ?_
  unfold Thing.le at a1 a2
  omega

theorem rest_perm {j : Nat} (hj : j < R.length) (h : R.Perm (R[j] :: L2)) : L2.Perm (R.eraseIdx j) := by
  have := h.symm.trans (perm_at R j hj)
  exact (List.perm_cons _).1 this

theorem rise_erase (hr : R.Pairwise (fun x y => x.num < y.num)) (j : Nat) : (R.eraseIdx j).Pairwise (fun x y => x.num < y.num) := hr.sublist (List.eraseIdx_sublist _ _)

theorem rise_snoc (hr : R.Pairwise (fun x y => x.num < y.num)) (hg : ∀ x ∈ R, x.num < next) (key v : Int) : (R ++ [(⟨key, next, v⟩ : Thing Int)]).Pairwise (fun x y => x.num < y.num) := by
  rw [List.pairwise_append]
  refine ⟨hr, by simp, fun x hx y hy => ?_⟩
  rw [List.mem_singleton] at hy
  subst hy
  exact hg x hx

theorem rise_set (hr : R.Pairwise (fun x y => x.num < y.num)) {j : Nat} (hj : j < R.length) (key : Int) : (R.set j { R[j] with key := key }).Pairwise (fun x y => x.num < y.num) := by
  rw [List.pairwise_iff_getElem] at hr ⊢
  intro a b ha hb hab
  rw [List.length_set] at ha hb
  have h0 := hr a b ha hb hab
  rw [List.getElem_set, List.getElem_set]
  by_cases e1 : j = a
  · subst e1
    rw [if_pos rfl, if_neg (by omega)]
    exact h0
  · rw [if_neg e1]
    by_cases e2 : j = b
    · subst e2; rw [if_pos rfl]; exact h0
    · rw [if_neg e2]; exact h0

theorem set_perm {j : Nat} (hj : j < R.length) (h : R.Perm (R[j] :: L2)) (x : Thing Int) : (x :: L2).Perm (R.set j x) := by
  have h1 := (rest_perm hj h).cons x
  refine h1.trans ?_
  have := perm_at (R.set j x) j (by simpa using hj)
  rw [List.getElem_set_self, List.eraseIdx_set_eq] at this
  exact this.symm

end Go.Proofs.Ytofdcmbjcpfabaa
