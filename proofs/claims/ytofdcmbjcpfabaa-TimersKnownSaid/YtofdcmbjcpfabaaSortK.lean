/- Between the sort's words (HoldsK, sortWorldK) and the rows of this proof. No program here. -/
import Derived.Test.YtofdcmbjcpfabaaRowK
import Derived.Shelf.SlSortCmp.NoneTotal
namespace Go.Proofs.Ytofdcmbjcpfabaa
open Go.Sort

section
variable {α : Type} [Inhabited α] {w : World} {e : TypeId} {k : Nat} {enc : α → List Value} {g cap : Nat} {l : List α}

theorem flatK_flat (hk : ∀ x, (enc x).length = k) (l : List α) : (flatK enc k l.toArray).toList = l.flatMap enc := by
  apply List.ext_getElem?
  intro t
  by_cases ht : t < l.length * k
  · have k0 : 0 < k := by rcases Nat.eq_zero_or_pos k with h | h; · subst h; simp at ht
                          · exact h
    have hi : t / k < l.length := (Nat.div_lt_iff_lt_mul k0).2 ht
    have hj : t % k < k := Nat.mod_lt _ k0
    have e1 : (flatK enc k l.toArray)[t]! = (enc l.toArray[t / k]!)[t % k]! := get_flatK enc k l.toArray t (by simpa using ht)
    have e2 := flat_get enc k hk l (t / k) (t % k) hi hj
    rw [Nat.div_add_mod' t k] at e2
    rw [e2]
    have hs : t < (flatK enc k l.toArray).size := by simpa using ht
    rw [Array.getElem?_toList, Array.getElem?_eq_getElem hs, ← getElem!_pos _ t hs, e1]
    have e3 : l.toArray[t / k]! = l[t / k] := by rw [getElem!_pos _ _ (by simpa using hi)]; simp
    rw [e3, getElem!_pos _ _ (by rw [hk]; exact hj), List.getElem?_eq_getElem (by rw [hk]; exact hj)]
  · rw [List.getElem?_eq_none (by simp; omega), List.getElem?_eq_none (by rw [flat_length enc k hk]; omega)]

theorem holdsK_of_row (hk : ∀ x, (enc x).length = k) (h : RowAt w e k enc g cap l) : HoldsK enc k w g 0 l.toArray := fun j hj => by
  have hj' : j < l.length * k := by simpa using hj
  rw [Nat.zero_add]
  refine ⟨?_, h.frozen j⟩
  rw [World.ownsRow.cellAt h j hj', ← flatK_flat hk l, Array.getElem?_toList, Array.getElem?_eq_getElem hj, ← getElem!_pos _ j hj]
  rfl

theorem heap_sortedK {n : Nat} {os : Array Obj} {cur : Array Value} {fr : Nat × Nat} (d : Array α) (hb : w.heap[g]? = some (.cells cur e fr)) :
    (sortWorldK enc k w g 0 n d os).heap[g]? = some (.cells (putCells id 0 (flatK enc k d) cur) e fr) := by
  have hg : g < w.heap.size := block_lt hb
  unfold sortWorldK putRowK
  rw [heap_grow_old _ _ (by simpa using hg)]
  simp [putRow, mapBlock, Sort.ahead, Array.getElem?_modify, hb, onCells]

theorem keeps_sortedK {n : Nat} {os : Array Obj} (d : Array α) : Keeps (fun k => k = g) w (sortWorldK enc k w g 0 n d os) := by
  refine ⟨rfl, rfl, rfl, by simp [sortWorldK, putRowK], fun i hi hne => ?_⟩
  unfold sortWorldK putRowK
  rw [heap_grow_old _ _ (by simpa using hi)]
  have : g ≠ i := fun e => hne e.symm
  simp [putRow, mapBlock, Sort.ahead, Array.getElem?_modify, this]

theorem RowAt.sorted (hk : ∀ x, (enc x).length = k) (h : RowAt w e k enc g cap l) {n : Nat} {os : Array Obj} (d : List α) (hd : d.length = l.length) : RowAt (sortWorldK enc k w g 0 n d.toArray os) e k enc g cap d := by
  obtain ⟨cur, r1, r2, r3, r4, r5⟩ := h.block
  refine RowAt.of_block (heap_sortedK d.toArray r1) (by omega) r3 (by simp [putCells, r4]) ?_ hk
  rw [← flatK_flat hk d]
  apply List.ext_getElem?
  intro j
  have hsz : (flatK enc k d.toArray).size = d.length * k := by simp
  have hc : d.length * k ≤ cur.size := by rw [r4]; exact Nat.mul_le_mul_right k (by omega)
  by_cases hj : j < d.length * k
  · rw [List.getElem?_take_of_lt hj, Array.getElem?_toList, Array.getElem?_toList]
    have h1 : j < (flatK enc k d.toArray).size := by rw [hsz]; exact hj
    rw [Array.getElem?_eq_getElem h1, ← getElem!_pos _ j h1]
    simp only [putCells, Array.getElem?_mapIdx, Array.getElem?_eq_getElem (show j < cur.size by omega), Option.map_some, Nat.zero_add, Nat.sub_zero, Nat.zero_le, true_and, hsz, if_pos hj]
    rfl
  · rw [List.getElem?_take_eq_none (by omega), List.getElem?_eq_none (by rw [Array.length_toList, hsz]; omega)]

/-- What PermIn says of the whole. -/
theorem permIn_whole {d d' : Array α} (h : PermIn 0 d.size d d') : d'.toList.Perm d.toList := by
  have h1 := h.2.2
  have h2 : d'.extract 0 d.size = d' := by rw [← h.1]; simp
  have h3 : d.extract 0 d.size = d := by simp
  rw [h2, h3] at h1
  exact h1

theorem sortedIn_whole {lt : α → α → Bool} {d d' : Array α} (hp : d'.size = d.size) (h : SortedIn lt 0 d.size d') : d'.toList.Pairwise (fun x y => lt y x = false) := by
  rw [List.pairwise_iff_getElem]
  intro i j hi hj hij
  have := h i j (Nat.zero_le _) hij (by simpa [hp] using hj)
  simp only [Array.length_toList] at hi hj
  rw [getElem!_pos d' i hi, getElem!_pos d' j hj] at this
  simpa using this
end

end Go.Proofs.Ytofdcmbjcpfabaa
