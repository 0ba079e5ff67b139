/- QueueLeases: the plain law. -/
import Derived.Test.YtofdcmbjcpfabaaLaw22o
import Derived.Test.YtofdcmbjcpfabaaQTell
namespace Go.Proofs.Ytofdcmbjcpfabaa

/-- The task that was put and taken as the j-th. -/
def lo (j : Nat) (till : Int) : QOut := ⟨⟨nm j, ⟨#[]⟩, 0, 1⟩, j + 1, ⟨#[119]⟩, till⟩

/-- The queue where U are the moments up to which its tasks are out. -/
structure LsQ (U : List Int) (q : QS) : Prop where
  n30 : U.length ≤ 30
  most : q.most = 30
  grace : q.grace = 0
  next : q.next = U.length + 1
  waits : q.waits = []
  outs : ∀ k, q.outs k = if 0 < k ∧ k ≤ U.length then some (lo (k - 1).toNat (U.getD (k - 1).toNat 0)) else none
  there : ∀ j, U.length ≤ j → j < 52 → q.there (nm j) = none

theorem LsQ.start : LsQ [] (QS.new 30 0) := ⟨by simp, rfl, rfl, rfl, rfl, fun k => by rw [if_neg (fun h => by have h1 := h.1; have h2 : k ≤ 0 := h.2; omega)]; rfl, fun _ _ _ => rfl⟩

variable {U : List Int} {q : QS}

theorem LsQ.step (h : LsQ U q) (hn : U.length < 30) (till : Int) : LsQ (U ++ [till]) ((q.wait ⟨nm U.length, ⟨#[]⟩, 0, 0⟩).hand 0 ⟨nm U.length, ⟨#[]⟩, 0, 0⟩ ⟨#[119]⟩ till) := by
  refine ⟨by simp; omega, h.most, h.grace, ?_, ?_, fun k => ?_, fun j hj hj2 => ?_⟩
  · show q.next + 1 = _; rw [h.next]; simp
  · show (q.waits ++ [_]).eraseIdx 0 = _; rw [h.waits]; rfl
  · show fput q.outs q.next _ k = _
    by_cases e : k = q.next
    · subst e
      rw [fput_same]
      have e1 : (q.next - 1).toNat = U.length := by rw [h.next]; omega
      have e2 : 0 < q.next ∧ q.next ≤ (U ++ [till]).length := by rw [h.next, List.length_append]; exact ⟨by omega, by simp⟩
      have e3 : (q.wait ⟨nm U.length, ⟨#[]⟩, 0, 0⟩).next = U.length + 1 := h.next
      rw [if_pos e2, e1, e3]
      simp [lo, List.getD]
    · rw [fput_other _ _ e, h.outs]
      rw [h.next] at e
      by_cases hk : 0 < k ∧ k ≤ U.length
      · rw [if_pos hk, if_pos (by simp; omega)]
        rw [List.getD_eq_getElem?_getD, List.getD_eq_getElem?_getD, List.getElem?_append_left (by omega)]
      · rw [if_neg hk, if_neg (by simp; omega)]
  · have hne : ¬ nm j = nm U.length := fun e => by have := nm_inj hj2 (by omega) e; simp at hj; omega
    show fput (fput q.there (nm U.length) 0) (nm U.length) q.next (nm j) = none
    rw [fput_other _ _ hne, fput_other _ _ hne]
    exact h.there j (by simp at hj; omega) hj2

theorem LsQ.out (h : LsQ U q) {i : Nat} (hi : i < U.length) : q.outs ((i : Int) + 1) = some (lo i (U.getD i 0)) := by
  have e : ((i : Int) + 1 - 1).toNat = i := by omega
  rw [h.outs, if_pos (by omega), e]

theorem LsQ.no (h : LsQ U q) {i : Nat} (hi : U.length ≤ i) : q.outs ((i : Int) + 1) = none := by
  rw [h.outs, if_neg (by omega)]

theorem LsQ.beat (h : LsQ U q) {i : Nat} (hi : i < U.length) (till : Int) : LsQ (U.set i (maxI (U.getD i 0) till)) (q.beat ((i : Int) + 1) (lo i (U.getD i 0)) till) := by
  refine ⟨by simpa using h.n30, h.most, h.grace, by rw [List.length_set]; exact h.next, h.waits, fun k => ?_, fun j hj hj2 => h.there j (by simpa using hj) hj2⟩
  show fput q.outs ((i : Int) + 1) _ k = _
  rw [List.length_set]
  by_cases e : k = (i : Int) + 1
  · subst e
    have e : ((i : Int) + 1 - 1).toNat = i := by omega
    rw [fput_same, if_pos (by omega), e]
    simp [lo, List.getD, hi]
  · rw [fput_other _ _ e, h.outs]
    by_cases hk : 0 < k ∧ k ≤ U.length
    · rw [if_pos hk, if_pos hk, List.getD_eq_getElem?_getD, List.getD_eq_getElem?_getD, List.getElem?_set, if_neg (by omega)]
    · rw [if_neg hk, if_neg hk]

theorem LsQ.pos (h : LsQ U q) : QPos q := fun k x hx => by
  rw [h.outs] at hx
  rw [h.next]
  by_cases hk : 0 < k ∧ k ≤ U.length
  · omega
  · rw [if_neg hk] at hx; cases hx

theorem rise_unique {l m : List QOut} (hl : l.Pairwise (fun x y => x.tok < y.tok)) (hm : m.Pairwise (fun x y => x.tok < y.tok)) (h : ∀ x, x ∈ l ↔ x ∈ m) : l = m := by
  have nd : ∀ {l : List QOut}, l.Pairwise (fun x y => x.tok < y.tok) → l.Nodup := fun h => h.imp (fun {a b} h e => by subst e; omega)
  have hp := (List.perm_ext_iff_of_nodup (nd hl) (nd hm)).2 h
  exact List.Perm.eq_of_pairwise (le := fun x y => x.tok < y.tok) (fun a b _ _ h1 h2 => absurd h1 (by omega)) hl hm hp

/-- All that are out. -/
def los (U : List Int) : List QOut := (List.range U.length).map fun j => lo j (U.getD j 0)
theorem los_len (U : List Int) : (los U).length = U.length := by simp [los]

theorem LsQ.all (h : LsQ U q) {l : List QOut} (hl : OutsOf q.outs l) : l = los U := by
  refine rise_unique hl.rise ?_ (fun x => ?_)
  · refine List.pairwise_map.2 ((List.pairwise_lt_range (n := U.length)).imp ?_)
    intro a b hab
    show ((a : Int) + 1) < b + 1
    omega
  · rw [hl.mem, h.outs, los, List.mem_map]
    constructor
    · intro e
      by_cases hk : 0 < x.tok ∧ x.tok ≤ U.length
      · rw [if_pos hk] at e
        exact ⟨(x.tok - 1).toNat, List.mem_range.2 (by omega), Option.some.inj e⟩
      · rw [if_neg hk] at e; cases e
    · rintro ⟨j, hj, rfl⟩
      rw [List.mem_range] at hj
      have e : ((lo j (U.getD j 0)).tok - 1).toNat = j := by show ((j : Int) + 1 - 1).toNat = j; omega
      rw [if_pos (by show 0 < (j : Int) + 1 ∧ (j : Int) + 1 ≤ _; omega), e]

/-- How many of the first i are over. -/
def over (U : List Int) (now : Int) (i : Nat) : Nat := ((los U).take i |>.filter fun x => decide (x.till ≤ now)).length

theorem over_zero (U : List Int) (now : Int) : over U now 0 = 0 := rfl
theorem over_all (U : List Int) (now : Int) : over U now U.length = ((los U).filter fun x => decide (x.till ≤ now)).length := by
  unfold over; rw [List.take_of_length_le (Nat.le_of_eq (los_len U))]

theorem los_get (U : List Int) {i : Nat} (hi : i < U.length) : (los U)[i]'(by rw [los_len]; exact hi) = lo i (U.getD i 0) := by simp [los]

theorem over_succ (U : List Int) (now : Int) {i : Nat} (hi : i < U.length) : over U now (i + 1) = over U now i + (if U.getD i 0 ≤ now then 1 else 0) := by
  unfold over
  rw [List.take_succ_eq_append_getElem (by rw [los_len]; exact hi), List.filter_append, List.length_append, los_get U hi]
  congr 1
  by_cases h : U.getD i 0 ≤ now
  · rw [if_pos h]; simp only [List.filter_cons, lo, h, decide_true, if_true]; rfl
  · rw [if_neg h]; simp only [List.filter_cons, lo, h, decide_false]; rfl

theorem over_hit (U : List Int) (now : Int) {i : Nat} (hi : i < U.length) (h : U.getD i 0 ≤ now) : ((los U).filter fun x => decide (x.till ≤ now))[over U now i]? = some (lo i (U.getD i 0)) := by
  have e : (los U).filter (fun x => decide (x.till ≤ now)) = ((los U).take i).filter (fun x => decide (x.till ≤ now)) ++ lo i (U.getD i 0) :: ((los U).drop (i + 1)).filter (fun x => decide (x.till ≤ now)) := by
    conv => lhs; rw [← List.take_append_drop i (los U), List.drop_eq_getElem_cons (by rw [los_len]; exact hi), List.filter_append, los_get U hi]
    rw [List.filter_cons, if_pos (by simpa [lo] using h)]
  rw [e]
  unfold over
  rw [List.getElem?_append_right (Nat.le_refl _), Nat.sub_self]
  rfl

end Go.Proofs.Ytofdcmbjcpfabaa
