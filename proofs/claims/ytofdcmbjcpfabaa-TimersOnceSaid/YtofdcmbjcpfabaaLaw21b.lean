/- TimersOnce: the plain law of what its loops keep. -/
import Derived.Test.YtofdcmbjcpfabaaLaw21a
namespace Go.Proofs.Ytofdcmbjcpfabaa

/-- The thing of one of the timers ds. -/
def Of21 (ds : List Int) (x : Thing Tm) : Prop := 0 ≤ x.num ∧ x.num < ds.length ∧ x = th21 ds x.num.toNat

/-- j has come due at one of the first i times. -/
def late21 (ds ts : List Int) (i j : Nat) : Prop := ∃ k, k < i ∧ ds.getD j 0 ≤ ts.getD k 0

structure On1 (ds ts : List Int) (i : Nat) (L : List (Thing Tm)) (tb : List Bool) : Prop where
  len : tb.length = ds.length
  nd : (L.map Thing.num).Nodup
  of : ∀ x ∈ L, Of21 ds x
  mem : ∀ j, j < ds.length → (tb.getD j false = true ↔ ∀ x ∈ L, x.num ≠ j)
  late : ∀ j, j < ds.length → (tb.getD j false = true ↔ late21 ds ts i j)

/-- Within a call's answer: the first k of R are marked. -/
structure On2 (ds : List Int) (R L' : List (Thing Tm)) (k : Nat) (tb0 tb : List Bool) : Prop where
  len : tb.length = ds.length
  mark : ∀ j, j < ds.length → (tb.getD j false = true ↔ tb0.getD j false = true ∨ ∃ r x, r < k ∧ R[r]? = some x ∧ x.num = j)

variable {ds ts : List Int} {i k : Nat} {L L' R : List (Thing Tm)} {tb tb0 : List Bool} {now : Int}

theorem On1.start (ds ts : List Int) : On1 ds ts 0 ((List.range ds.length).map (th21 ds)) (List.replicate ds.length false) := by
  have hf : ∀ j, (List.replicate ds.length false).getD j false = false := fun j => by
    rw [List.getD_eq_getElem?_getD, List.getElem?_replicate]
    split <;> rfl
  refine ⟨by simp, ?_, fun x hx => ?_, fun j hj => ?_, fun j hj => ?_⟩
  · rw [List.map_map]
    refine (List.pairwise_map).2 ((List.nodup_range (n := ds.length)).imp ?_)
    intro a b hab e
    exact hab (by simp only [Function.comp, th21] at e; omega)
  · obtain ⟨n, hn, rfl⟩ := List.mem_map.1 hx
    rw [List.mem_range] at hn
    exact ⟨by simp [th21], by simp [th21, hn], by simp [th21]⟩
  · rw [hf]
    constructor
    · intro h; cases h
    · intro h
      exact absurd rfl (h _ (List.mem_map.2 ⟨j, List.mem_range.2 hj, rfl⟩))
  · rw [hf]
    constructor
    · intro h; cases h
    · rintro ⟨k, hk, _⟩; omega

theorem On2.start (h : tb.length = ds.length) : On2 ds R L' 0 tb tb := ⟨h, fun _ _ => ⟨.inl, fun h => h.elim id (fun ⟨_, _, hr, _⟩ => absurd hr (Nat.not_lt_zero _))⟩⟩

theorem On2.step (h : On2 ds R L' k tb0 tb) {x : Thing Tm} (hx : R[k]? = some x) (hof : Of21 ds x) : On2 ds R L' (k + 1) tb0 (tb.set x.num.toNat true) := by
  refine ⟨by rw [List.length_set]; exact h.len, fun j hj => ?_⟩
  have h1 := hof.1
  have h2 := hof.2.1
  rw [List.getD_eq_getElem?_getD, List.getElem?_set]
  by_cases e : x.num.toNat = j
  · rw [if_pos e, if_pos (by rw [h.len]; omega)]
    simp only [Option.getD_some, true_iff]
    exact .inr ⟨k, x, by omega, hx, by omega⟩
  · rw [if_neg e, ← List.getD_eq_getElem?_getD, h.mark j hj]
    constructor
    · rintro (h | ⟨r, y, hr, q⟩)
      · exact .inl h
      · exact .inr ⟨r, y, by omega, q⟩
    · rintro (h | ⟨r, y, hr, q1, q2⟩)
      · exact .inl h
      · by_cases e2 : r = k
        · subst e2
          rw [hx] at q1
          cases q1
          exact absurd (by omega) e
        · exact .inr ⟨r, y, by omega, q1, q2⟩

/-- What the k-th of an answer is. -/
theorem On1.kth (h1 : On1 ds ts i L tb0) (hd : DueTo now L R L') (h2 : On2 ds R L' k tb0 tb) {x : Thing Tm} (hx : R[k]? = some x) :
    Of21 ds x ∧ tb.getD x.num.toNat false = false ∧ x.key ≤ now := by
  have hxR : x ∈ R := List.mem_of_getElem? hx
  have hxL : x ∈ L := hd.perm.mem_iff.2 (List.mem_append_left _ hxR)
  have hof := h1.of x hxL
  refine ⟨hof, ?_, (hd.le x hxR).1⟩
  have a1 := hof.1
  have a2 := hof.2.1
  cases hb : tb.getD x.num.toNat false with
  | false => rfl
  | true =>
    rcases (h2.mark _ (by omega)).1 hb with h | ⟨r, y, hr, q1, q2⟩
    · exact absurd (by omega) ((h1.mem _ (by omega)).1 h x hxL)
    · have hnd := (hd.perm.map Thing.num).nodup_iff.1 h1.nd
      rw [List.map_append] at hnd
      have hnR := (List.nodup_append.1 hnd).1
      have e1 : (R.map Thing.num)[r]? = some x.num := by rw [List.getElem?_map, q1]; simp; omega
      have e2 : (R.map Thing.num)[k]? = some x.num := by rw [List.getElem?_map, hx]; rfl
      obtain ⟨hrl, er⟩ := List.getElem?_eq_some_iff.1 e1
      obtain ⟨hkl, ek⟩ := List.getElem?_eq_some_iff.1 e2
      exact absurd (er.trans ek.symm) (List.pairwise_iff_getElem.1 hnR r k hrl hkl hr)

theorem DueTo.sorted (hd : DueTo now L R L') {x y : Thing Tm} {r : Nat} (hx : R[r]? = some x) (hy : R[r + 1]? = some y) : x.le y := by
  have a := List.getElem?_eq_some_iff.1 hx
  have b := List.getElem?_eq_some_iff.1 hy
  obtain ⟨a1, a2⟩ := a
  obtain ⟨b1, b2⟩ := b
  have := List.pairwise_iff_getElem.1 hd.ord r (r + 1) a1 b1 (by omega)
  rw [a2, b2] at this
  exact this

theorem On1.next (h1 : On1 ds ts i L tb0) (hd : DueTo (ts.getD i 0) L R L') (he : ∀ y ∈ L', ts.getD i 0 < y.key) (h2 : On2 ds R L' R.length tb0 tb) : On1 ds ts (i + 1) L' tb := by
  have hm : ∀ x, x ∈ L ↔ x ∈ R ∨ x ∈ L' := fun x => by rw [hd.perm.mem_iff, List.mem_append]
  have hnd := (hd.perm.map Thing.num).nodup_iff.1 h1.nd
  rw [List.map_append] at hnd
  obtain ⟨_, hnL, hdis⟩ := List.nodup_append.1 hnd
  have hin : ∀ j, (∃ r x, r < R.length ∧ R[r]? = some x ∧ x.num = (j : Nat)) ↔ ∃ x ∈ R, x.num = j := fun j => by
    constructor
    · rintro ⟨r, x, _, q1, q2⟩; exact ⟨x, List.mem_of_getElem? q1, q2⟩
    · rintro ⟨x, hx, q⟩
      obtain ⟨r, hr⟩ := List.mem_iff_getElem?.1 hx
      exact ⟨r, x, (List.getElem?_eq_some_iff.1 hr).1, hr, q⟩
  refine ⟨h2.len, hnL, fun x hx => h1.of x ((hm x).2 (.inr hx)), fun j hj => ?_, fun j hj => ?_⟩
  · rw [h2.mark j hj, hin j, h1.mem j hj]
    constructor
    · rintro (h | ⟨x, hx, q⟩) y hy
      · exact h y ((hm y).2 (.inr hy))
      · intro e
        exact hdis x.num (List.mem_map.2 ⟨x, hx, rfl⟩) y.num (List.mem_map.2 ⟨y, hy, rfl⟩) (by rw [q, e])
    · intro h
      by_cases hR : ∃ x ∈ R, x.num = j
      · exact .inr hR
      · refine .inl fun y hy e => ?_
        rcases (hm y).1 hy with hy | hy
        · exact hR ⟨y, hy, e⟩
        · exact h y hy e
  · rw [h2.mark j hj, hin j]
    have key : ∀ x ∈ L, x.num = j → x.key = ds.getD j 0 := fun x hx e => by
      have := (h1.of x hx).2.2
      rw [this]
      show ds.getD x.num.toNat 0 = _
      rw [show x.num.toNat = j by omega]
    constructor
    · rintro (h | ⟨x, hx, q⟩)
      · obtain ⟨k, hk, hk2⟩ := (h1.late j hj).1 h
        exact ⟨k, by omega, hk2⟩
      · exact ⟨i, by omega, by rw [← key x ((hm x).2 (.inl hx)) q]; exact (hd.le x hx).1⟩
    · rintro ⟨k, hk, hk2⟩
      by_cases e : k = i
      · subst e
        cases hb : tb0.getD j false with
        | true => exact .inl rfl
        | false =>
          refine .inr ?_
          have : ¬ ∀ x ∈ L, x.num ≠ j := fun h => by rw [(h1.mem j hj).2 h] at hb; cases hb
          obtain ⟨x, hx⟩ := Classical.not_forall.1 this
          obtain ⟨hx, hq⟩ := Classical.not_imp.1 hx
          have hq := Classical.not_not.1 hq
          rcases (hm x).1 hx with hR | hL
          · exact ⟨x, hR, hq⟩
          · have := he x hL
            rw [key x hx hq] at this
            omega
      · exact .inl ((h1.late j hj).2 ⟨k, by omega, hk2⟩)

end Go.Proofs.Ytofdcmbjcpfabaa
