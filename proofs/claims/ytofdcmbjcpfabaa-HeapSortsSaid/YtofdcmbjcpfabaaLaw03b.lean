/- HeapTakes: the plain law of what its loops keep. -/
import Derived.Test.YtofdcmbjcpfabaaHeapInv
namespace Go.Proofs.Ytofdcmbjcpfabaa

structure Tk1 (ks gone : List Int) (now : Nat) (i : Nat) (L : List (Thing Int)) (tb : List Bool) (taken : Nat) : Prop where
  len : tb.length = ks.length
  nd : (L.map Thing.num).Nodup
  rng : ∀ x ∈ L, 0 ≤ x.num ∧ x.num < ks.length ∧ x.v = x.num
  key : ∀ x ∈ L, x.key = ks.getD x.num.toNat 0 ∨ ∃ j, j < i ∧ j < now ∧ gone.getD j 0 = x.num
  tch : ∀ n, n < ks.length → (tb.getD n false = true ↔ ∀ x ∈ L, x.num ≠ n)
  cnt : L.length + taken = ks.length

variable {ks gone : List Int} {now i : Nat} {L : List (Thing Int)} {tb : List Bool} {taken : Nat}

theorem Tk1.skip (h : Tk1 ks gone now i L tb taken) : Tk1 ks gone now (i + 1) L tb taken :=
  ⟨h.len, h.nd, h.rng, fun x hx => (h.key x hx).imp id (fun ⟨j, a, b⟩ => ⟨j, by omega, b⟩), h.tch, h.cnt⟩

theorem Tk1.change (h : Tk1 ks gone now i L tb taken) {x : Thing Int} {L' : List (Thing Int)} (hp : L.Perm (x :: L')) (hn : i < now) (hx : gone.getD i 0 = x.num) (key : Int) :
    Tk1 ks gone now (i + 1) ({ x with key := key } :: L') tb taken := by
  have hm : ∀ y, y ∈ L ↔ y = x ∨ y ∈ L' := fun y => by rw [hp.mem_iff, List.mem_cons]
  refine ⟨h.len, ?_, fun y hy => ?_, fun y hy => ?_, fun n hn => ?_, ?_⟩
  · exact ((hp.map Thing.num).nodup_iff.1 h.nd)
  · rcases List.mem_cons.1 hy with rfl | hy
    · exact h.rng x ((hm x).2 (.inl rfl))
    · exact h.rng y ((hm y).2 (.inr hy))
  · rcases List.mem_cons.1 hy with rfl | hy
    · exact .inr ⟨i, by omega, hn, hx⟩
    · exact (h.key y ((hm y).2 (.inr hy))).imp id (fun ⟨j, a, b⟩ => ⟨j, by omega, b⟩)
  · rw [h.tch n hn]
    constructor
    · intro q y hy
      rcases List.mem_cons.1 hy with rfl | hy
      · exact q x ((hm x).2 (.inl rfl))
      · exact q y ((hm y).2 (.inr hy))
    · intro q y hy
      rcases (hm y).1 hy with rfl | hy
      · exact q { y with key := key } List.mem_cons_self
      · exact q y (List.mem_cons_of_mem _ hy)
  · have := hp.length_eq; have := h.cnt; simp at *; omega

theorem Tk1.remove (h : Tk1 ks gone now i L tb taken) {x : Thing Int} {L' : List (Thing Int)} (hp : L.Perm (x :: L')) :
    Tk1 ks gone now (i + 1) L' (tb.set x.num.toNat true) (taken + 1) := by
  have hm : ∀ y, y ∈ L ↔ y = x ∨ y ∈ L' := fun y => by rw [hp.mem_iff, List.mem_cons]
  have hnd := (hp.map Thing.num).nodup_iff.1 h.nd
  rw [List.map_cons, List.nodup_cons] at hnd
  have hx := h.rng x ((hm x).2 (.inl rfl))
  refine ⟨by rw [List.length_set]; exact h.len, hnd.2, fun y hy => h.rng y ((hm y).2 (.inr hy)), fun y hy => (h.key y ((hm y).2 (.inr hy))).imp id (fun ⟨j, a, b⟩ => ⟨j, by omega, b⟩), fun n hn => ?_, ?_⟩
  · rw [List.getD_eq_getElem?_getD, List.getElem?_set]
    by_cases e : x.num.toNat = n
    · rw [if_pos e, if_pos (by rw [h.len]; omega)]
      simp only [Option.getD_some, true_iff]
      intro y hy e2
      exact hnd.1 (List.mem_map.2 ⟨y, hy, by omega⟩)
    · rw [if_neg e, ← List.getD_eq_getElem?_getD, h.tch n hn]
      constructor
      · exact fun q y hy => q y ((hm y).2 (.inr hy))
      · intro q y hy
        rcases (hm y).1 hy with rfl | hy
        · intro e2; exact e (by omega)
        · exact q y hy
  · have := hp.length_eq; have := h.cnt; simp at *; omega

theorem Tk1.start (ks gone : List Int) (now : Nat) : Tk1 ks gone now 0 ((List.range ks.length).map fun i : Nat => (⟨ks.getD i 0, i, i⟩ : Thing Int)) (List.replicate ks.length false) 0 := by
  refine ⟨by simp, ?_, fun x hx => ?_, fun x hx => ?_, fun n hn => ?_, by simp⟩
  · rw [List.map_map]
    refine (List.pairwise_map).2 ((List.nodup_range (n := ks.length)).imp ?_)
    intro a b hab e
    exact hab (by simp only [Function.comp] at e; omega)
  · obtain ⟨k, hk, rfl⟩ := List.mem_map.1 hx
    rw [List.mem_range] at hk
    exact ⟨by simp, by simpa using hk, rfl⟩
  · obtain ⟨k, hk, rfl⟩ := List.mem_map.1 hx
    exact .inl (by simp)
  · have hf : (List.replicate ks.length false).getD n false = false := by
      rw [List.getD_eq_getElem?_getD, List.getElem?_replicate]
      split <;> rfl
    rw [hf]
    constructor
    · intro h
      exact absurd h (by decide)
    · intro h
      exact absurd rfl (h _ (List.mem_map.2 ⟨n, List.mem_range.2 hn, rfl⟩))

structure Tk2 (ks gone : List Int) (now : Nat) (i : Nat) (L : List (Thing Int)) (tb : List Bool) : Prop where
  len : tb.length = ks.length
  rng : ∀ x ∈ L, 0 ≤ x.num ∧ x.num < ks.length ∧ x.v = x.num
  key : ∀ x ∈ L, tb.getD x.num.toNat false = false → x.key = ks.getD x.num.toNat 0 ∨ ∃ j, i ≤ j ∧ j < gone.length ∧ j < now ∧ gone.getD j 0 = x.num

theorem Tk1.second (h : Tk1 ks gone now gone.length L tb taken) : Tk2 ks gone now 0 L tb :=
  ⟨h.len, h.rng, fun x hx _ => (h.key x hx).imp id (fun ⟨j, a, b⟩ => ⟨j, by omega, a, b⟩)⟩

theorem Tk2.skip (h : Tk2 ks gone now i L tb) (hg : ¬ (0 ≤ gone.getD i 0 ∧ gone.getD i 0 < ks.length)) : Tk2 ks gone now (i + 1) L tb := by
  refine ⟨h.len, h.rng, fun x hx hf => (h.key x hx hf).imp id (fun ⟨j, a, b, c, d⟩ => ⟨j, ?_, b, c, d⟩)⟩
  have := h.rng x hx
  rcases Nat.lt_or_eq_of_le a with a | rfl
  · exact a
  · exact absurd (by rw [d]; omega) hg

theorem Tk2.touch (h : Tk2 ks gone now i L tb) : Tk2 ks gone now (i + 1) L (tb.set (gone.getD i 0).toNat true) := by
  refine ⟨by rw [List.length_set]; exact h.len, h.rng, fun x hx hf => ?_⟩
  have hr := h.rng x hx
  rw [List.getD_eq_getElem?_getD, List.getElem?_set] at hf
  by_cases e : (gone.getD i 0).toNat = x.num.toNat
  · rw [if_pos e, if_pos (by rw [h.len]; omega)] at hf
    cases hf
  · rw [if_neg e, ← List.getD_eq_getElem?_getD] at hf
    refine (h.key x hx hf).imp id (fun ⟨j, a, b, c, d⟩ => ⟨j, ?_, b, c, d⟩)
    rcases Nat.lt_or_eq_of_le a with a | rfl
    · exact a
    · exact absurd (by rw [d]) e

structure Tk3 (ks : List Int) (L : List (Thing Int)) (tb : List Bool) (lk ln : Int) : Prop where
  len : tb.length = ks.length
  rng : ∀ x ∈ L, 0 ≤ x.num ∧ x.num < ks.length ∧ x.v = x.num
  key : ∀ x ∈ L, tb.getD x.num.toNat false = false → x.key = ks.getD x.num.toNat 0
  ord : ∀ x ∈ L, tb.getD x.num.toNat false = false → lk < x.key ∨ (lk = x.key ∧ ln ≤ x.num)

theorem Tk2.third (h : Tk2 ks gone now i L tb) (hi : ¬ (i < gone.length ∧ i < now)) (hr : ∀ j, j < ks.length → (-9223372036854775808 : Int) ≤ ks.getD j 0) : Tk3 ks L tb (-9223372036854775808) (-1) := by
  have hk : ∀ x ∈ L, tb.getD x.num.toNat false = false → x.key = ks.getD x.num.toNat 0 := fun x hx hf => (h.key x hx hf).resolve_right (fun ⟨j, a, b, c, d⟩ => hi ⟨by omega, by omega⟩)
  refine ⟨h.len, h.rng, hk, fun x hx hf => ?_⟩
  have := h.rng x hx
  have h2 := hr x.num.toNat (by omega)
  rw [hk x hx hf]
  omega

theorem Tk3.out {lk ln : Int} (h : Tk3 ks L tb lk ln) {x : Thing Int} {L' : List (Thing Int)} (hp : L.Perm (x :: L')) : Tk3 ks L' tb lk ln :=
  have hm : ∀ y, y ∈ L' → y ∈ L := fun _ hy => hp.mem_iff.2 (List.mem_cons_of_mem _ hy)
  ⟨h.len, fun y hy => h.rng y (hm y hy), fun y hy => h.key y (hm y hy), fun y hy => h.ord y (hm y hy)⟩

theorem Tk3.next {lk ln : Int} (h : Tk3 ks L tb lk ln) {x : Thing Int} {L' : List (Thing Int)} (hf : FirstOf x L) (hp : L.Perm (x :: L')) : Tk3 ks L' tb x.key x.num :=
  have hm : ∀ y, y ∈ L' → y ∈ L := fun _ hy => hp.mem_iff.2 (List.mem_cons_of_mem _ hy)
  ⟨h.len, fun y hy => h.rng y (hm y hy), fun y hy => h.key y (hm y hy), fun _ hy _ => hf.2 _ (hm _ hy)⟩

end Go.Proofs.Ytofdcmbjcpfabaa
