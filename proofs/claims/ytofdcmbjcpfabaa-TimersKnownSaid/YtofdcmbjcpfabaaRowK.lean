/- Rows of records: many written at once; clear. No program here. -/
import Derived.Test.YtofdcmbjcpfabaaKit
import Derived.Lib.SliceRun
namespace Go.Proofs.Ytofdcmbjcpfabaa

section
variable {β : Type}

theorem length_setMany : ∀ (vs xs : List β) (o : Nat), (setMany xs o vs).length = xs.length
  | [], _, _ => rfl
  | v :: vs, xs, o => by simp only [setMany]; rw [length_setMany vs]; simp

theorem setMany_app : ∀ (vs us xs : List β) (o : Nat), setMany xs o (vs ++ us) = setMany (setMany xs o vs) (o + vs.length) us
  | [], _, _, _ => rfl
  | v :: vs, us, xs, o => by
    simp only [List.cons_append, setMany, List.length_cons]
    rw [setMany_app vs us, show o + 1 + vs.length = o + (vs.length + 1) by omega]

theorem get_setMany : ∀ (vs xs : List β) (o j : Nat), (setMany xs o vs)[j]? = if o ≤ j ∧ j < o + vs.length ∧ j < xs.length then vs[j - o]? else xs[j]?
  | [], xs, o, j => by simp only [setMany]; rw [if_neg (by simp; omega)]
  | v :: vs, xs, o, j => by
    simp only [setMany, List.length_cons]
    rw [get_setMany vs, List.length_set, List.getElem?_set]
    by_cases h1 : o = j
    · subst h1
      rw [if_neg (by omega), if_pos rfl]
      by_cases h2 : o < xs.length
      · rw [if_pos h2, if_pos ⟨Nat.le_refl _, by omega, h2⟩]; simp
      · rw [if_neg h2, if_neg (by omega)]
        simp; omega
    · by_cases h2 : o + 1 ≤ j ∧ j < o + 1 + vs.length ∧ j < xs.length
      · rw [if_pos h2, if_pos (by omega)]
        obtain ⟨m, rfl⟩ : ∃ m, j = o + 1 + m := ⟨j - (o + 1), by omega⟩
        rw [show o + 1 + m - (o + 1) = m by omega, show o + 1 + m - o = m + 1 by omega]; rfl
      · rw [if_neg h2, if_neg h1, if_neg (by omega)]

variable {α : Type}

theorem flat_setMany (f : α → List β) (k : Nat) (hk : ∀ x, (f x).length = k) : ∀ (ys l : List α) (i : Nat), i + ys.length ≤ l.length → (setMany l i ys).flatMap f = setMany (l.flatMap f) (i * k) (ys.flatMap f)
  | [], _, _, _ => rfl
  | y :: ys, l, i, h => by
    simp only [List.length_cons] at h
    simp only [setMany, List.flatMap_cons]
    rw [flat_setMany f k hk ys (l.set i y) (i + 1) (by simp; omega), flat_set f k hk l i y (by omega), setMany_app, hk, Nat.add_mul, Nat.one_mul]

theorem zeroCells_flat (z : Array Value) (n : Nat) : (Builtin.zeroCells z n).toList = (List.replicate n z.toList).flatten := by
  apply List.ext_getElem?
  intro i
  unfold Builtin.zeroCells
  rcases Nat.eq_zero_or_pos z.size with h0 | h0
  · have : z = #[] := Array.size_eq_zero_iff.1 h0
    subst this
    simp
  · simp only [Array.toList_map, Array.toList_range, List.getElem?_map]
    have hl : ∀ m, ((List.replicate m z.toList).flatten).length = m * z.size := fun m => by simp
    induction n generalizing i with
    | zero => simp
    | succ n ih =>
      rw [List.replicate_succ, List.flatten_cons]
      by_cases hi : i < z.size
      · rw [List.getElem?_append_left (by simpa using hi), List.getElem?_range (by rw [Nat.add_mul]; omega)]
        simp [Nat.mod_eq_of_lt hi, hi]
      · rw [List.getElem?_append_right (by simp; omega), ← ih]
        simp only [Array.length_toList]
        by_cases hb : i < (n + 1) * z.size
        · rw [List.getElem?_range hb, List.getElem?_range (by rw [Nat.add_mul] at hb; omega)]
          simp only [Option.map_some]
          rw [← Nat.mod_eq_sub_mod (by omega)]
        · rw [List.getElem?_eq_none (by simp; omega), List.getElem?_eq_none (by rw [Nat.add_mul] at hb; simp; omega)]

end

/-- 'clear(s)' at records of k cells. -/
theorem run_clear_rows {P : Program} (w : World) (t e ty : TypeId) (z : Value) (zs : List Value) (ht : P.underlying t = some (.slice e)) (hv : ∀ w, (zeroValue e).run P w = .ok z w) (hz : z.cells.toList = zs) (h1 : ∀ v ∈ zs, v.oneCell' = true) (b o n c : Nat) (hn : 0 < n)
    (hc : ∀ j, j < n * zs.length → (w.cell? ⟨b, o + j, none⟩).isSome = true) (hf : ∀ j, j < n * zs.length → w.frozen? ⟨b, o + j, none⟩ = false) :
    (Builtin.clear_ #[t] ty #[.slice (some ⟨b, o, none⟩) n c]).run P w = .ok (.tuple #[]) (w.setCells b o (List.replicate n zs).flatten) := by
  have hzc : (Builtin.zeroCells z.cells n).toList = (List.replicate n zs).flatten := by rw [zeroCells_flat, hz]
  have hlen : (List.replicate n zs).flatten.length = n * zs.length := by simp
  have hst := run_storeCells_cells (P := P) b o (List.replicate n zs).flatten 0 w (by rw [hlen]; simpa using hc) (by rw [hlen]; simpa using hf) (by
    intro v hv'
    obtain ⟨l, hl, hm⟩ := List.mem_flatten.1 hv'
    rw [List.eq_of_mem_replicate hl] at hm
    exact h1 v hm)
  simp only [Nat.add_zero] at hst
  obtain ⟨m, rfl⟩ : ∃ m, n = m + 1 := ⟨n - 1, by omega⟩
  simp [Builtin.clear_, run_underlying ht, hv, hzc, hst]

section
variable {α : Type} {w : World} {e : TypeId} {k : Nat} {enc : α → List Value} {g cap : Nat} {l : List α}

theorem RowAt.setMany (h : RowAt w e k enc g cap l) (hk : ∀ x, (enc x).length = k) {i : Nat} (ys : List α) (hi : i + ys.length ≤ l.length) : RowAt (w.setCells g (i * k) (ys.flatMap enc)) e k enc g cap (setMany l i ys) := by
  unfold RowAt RowV
  rw [length_setMany, flat_setMany enc k hk ys l i hi]
  exact ownsRow_setCells _ _ _ _ h
end

/-- What is left when the i-th goes: the tail moved up, the last place free. -/
theorem setMany_erase {α : Type} (l : List α) (i : Nat) (z : α) (hi : i < l.length) : (setMany (setMany l i (l.drop (i + 1))) (l.length - 1) [z]).take (l.length - 1) = l.eraseIdx i := by
  apply List.ext_getElem?
  intro j
  rw [List.getElem?_take, List.getElem?_eraseIdx]
  by_cases hj : j < l.length - 1
  · rw [if_pos hj, get_setMany, if_neg (by omega), get_setMany, List.length_drop]
    by_cases hji : j < i
    · rw [if_neg (by omega), if_pos hji]
    · rw [if_pos (by omega), if_neg hji, List.getElem?_drop, show i + 1 + (j - i) = j + 1 by omega]
  · rw [if_neg hj]
    by_cases hji : j < i
    · omega
    · rw [if_neg hji, List.getElem?_eq_none (by omega)]

end Go.Proofs.Ytofdcmbjcpfabaa
