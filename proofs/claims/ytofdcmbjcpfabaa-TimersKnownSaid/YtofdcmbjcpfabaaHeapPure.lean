/- The heap of layer 3 as plain Lean: things in a list, where each number stands in a finite function. No program here. -/
import Derived.Test.YtofdcmbjcpfabaaKit
namespace Go.Proofs.Ytofdcmbjcpfabaa

structure Thing (V : Type) where
  key : Int
  num : Int
  v : V

instance {V : Type} [Inhabited V] : Inhabited (Thing V) := ⟨⟨0, 0, default⟩⟩

/-- api.Timer -/
structure Tm where
  due : Int
  owner : ByteArray
  id : Int

instance : Inhabited Tm := ⟨⟨0, ⟨#[]⟩, 0⟩⟩

/-- cmp.Compare -/
def cmpI (x y : Int) : Int := if x < y then -1 else if y < x then 1 else 0
/-- cmp.Or of two -/
def orI (x y : Int) : Int := if x = 0 then y else x
/-- heap.ahead -/
def aheadI (k n k' n' : Int) : Int := orI (cmpI k k') (cmpI n n')

section
variable {V : Type}

/-- does x stand ahead of y? -/
def Thing.lt (x y : Thing V) : Bool := decide (aheadI x.key x.num y.key y.num < 0)

theorem Thing.lt_iff (x y : Thing V) : x.lt y = true ↔ (x.key < y.key ∨ (x.key = y.key ∧ x.num < y.num)) := by
  unfold Thing.lt aheadI orI cmpI
  rw [decide_eq_true_iff]
  repeat' split
  all_goals first | omega | (constructor <;> intro h <;> first | omega | (rcases h with h | h <;> omega))

/-- The things of a heap, and where each number stands. -/
structure HS (V : Type) where
  a : List (Thing V)
  m : Int → Option Int

def HS.lay (s : HS V) (i : Nat) (x : Thing V) : HS V := ⟨s.a.set i x, fput s.m x.num i⟩

@[simp] theorem HS.length_lay (s : HS V) (i : Nat) (x : Thing V) : (s.lay i x).a.length = s.a.length := by simp [HS.lay]

variable [Inhabited V]

def HS.get (s : HS V) (i : Nat) : Thing V := s.a.getD i default

/-- x comes up from the place i. -/
def HS.rise (s : HS V) (i : Nat) (x : Thing V) : HS V :=
  if 0 < i ∧ x.lt (s.get ((i - 1) / 2)) = true then (s.lay i (s.get ((i - 1) / 2))).rise ((i - 1) / 2) x else s.lay i x
termination_by i
decreasing_by omega

/-- The lesser of the two below i. -/
def HS.less (s : HS V) (i : Nat) : Nat := if 2 * i + 2 < s.a.length ∧ (s.get (2 * i + 2)).lt (s.get (2 * i + 1)) = true then 2 * i + 2 else 2 * i + 1

/-- x goes down from the place i. -/
def HS.sink (s : HS V) (i : Nat) (x : Thing V) : HS V :=
  if s.a.length ≤ 2 * i + 1 then s.lay i x
  else if x.lt (s.get (s.less i)) = true then s.lay i x
  else (s.lay i (s.get (s.less i))).sink (s.less i) x
termination_by s.a.length - i
decreasing_by
  simp only [HS.lay, List.length_set]
  unfold HS.less
  split <;> omega

theorem HS.get_lay (s : HS V) (i : Nat) (x : Thing V) (j : Nat) : (s.lay i x).get j = if i = j ∧ i < s.a.length then x else s.get j := by
  simp only [HS.get, HS.lay, List.getD, List.getElem?_set]
  by_cases h : i = j
  · by_cases h2 : i < s.a.length
    · subst h; simp [h2]
    · subst h; simp [h2]
  · simp [h]

theorem HS.get_of_ge (s : HS V) (j : Nat) (h : s.a.length ≤ j) : s.get j = default := by
  simp [HS.get, List.getD, List.getElem?_eq_none h]

theorem HS.wf_lay {s : HS V} (h : ∀ j, (Lit.int .i64 (s.get j).num).wf = true) {x : Thing V} (hx : (Lit.int .i64 x.num).wf = true) (i j : Nat) : (Lit.int .i64 ((s.lay i x).get j).num).wf = true := by
  rw [HS.get_lay]; split
  · exact hx
  · exact h j

theorem HS.rise_eq (s : HS V) (i : Nat) (x : Thing V) :
    s.rise i x = if 0 < i ∧ x.lt (s.get ((i - 1) / 2)) = true then (s.lay i (s.get ((i - 1) / 2))).rise ((i - 1) / 2) x else s.lay i x := by rw [HS.rise]
theorem HS.sink_eq (s : HS V) (i : Nat) (x : Thing V) :
    s.sink i x = if s.a.length ≤ 2 * i + 1 then s.lay i x
      else if x.lt (s.get (s.less i)) = true then s.lay i x
      else (s.lay i (s.get (s.less i))).sink (s.less i) x := by rw [HS.sink]

theorem HS.length_rise (s : HS V) (i : Nat) (x : Thing V) : (s.rise i x).a.length = s.a.length := by
  induction i using Nat.strongRecOn generalizing s with
  | _ i ih =>
    rw [HS.rise_eq]
    split
    · rename_i h; rw [ih _ (by omega)]; simp
    · simp

theorem HS.length_sink (s : HS V) (i : Nat) (x : Thing V) : (s.sink i x).a.length = s.a.length := by
  generalize hd : s.a.length - i = d
  induction d using Nat.strongRecOn generalizing s i with
  | _ d ih =>
    rw [HS.sink_eq]
    split
    · simp
    · split
      · simp
      · rename_i h1 _
        rw [ih (s.a.length - s.less i) (by unfold HS.less; split <;> omega) _ _ (by simp)]
        simp

/-- What stands at the place i is taken away. -/
def HS.cut (s : HS V) (i : Nat) : HS V := ⟨s.a.take (s.a.length - 1), fdel s.m (s.get i).num⟩
/-- The last thing goes to the place i, and down from there. -/
def HS.moved (s : HS V) (i : Nat) : HS V := ((s.cut i).lay i (s.get (s.a.length - 1))).sink i (s.get (s.a.length - 1))
/-- Where it stands then. -/
def HS.where_ (s : HS V) (i : Nat) : Nat := (((s.moved i).m (s.get (s.a.length - 1)).num).getD 0).toNat
def HS.drop (s : HS V) (i : Nat) : HS V :=
  if i = s.a.length - 1 then s.cut i else (s.moved i).rise (s.where_ i) ((s.moved i).get (s.where_ i))

theorem HS.length_cut (s : HS V) (i : Nat) : (s.cut i).a.length = s.a.length - 1 := by simp [HS.cut]
theorem HS.length_moved (s : HS V) (i : Nat) : (s.moved i).a.length = s.a.length - 1 := by
  unfold HS.moved; rw [HS.length_sink, HS.length_lay, HS.length_cut]

theorem HS.get_cut (s : HS V) (i j : Nat) (h : j < s.a.length - 1) : (s.cut i).get j = s.get j := by
  simp only [HS.get, HS.cut, List.getD, List.getElem?_take, if_pos h]

/-- A thing more, at the end, and up from there. -/
def HS.push (s : HS V) (x : Thing V) : HS V := (⟨s.a ++ [x], s.m⟩ : HS V).rise s.a.length x

theorem HS.get_push (s : HS V) (x : Thing V) (j : Nat) : (⟨s.a ++ [x], s.m⟩ : HS V).get j = if j = s.a.length then x else s.get j := by
  simp only [HS.get, List.getD]
  by_cases h : j = s.a.length
  · subst h; simp
  · rw [if_neg h]
    by_cases h2 : j < s.a.length
    · rw [List.getElem?_append_left h2]
    · rw [List.getElem?_eq_none (by simp; omega), List.getElem?_eq_none (by omega)]

end
end Go.Proofs.Ytofdcmbjcpfabaa
