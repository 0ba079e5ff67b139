/- QueueOrder: the plain law. -/
import Derived.Test.YtofdcmbjcpfabaaLaw22a
namespace Go.Proofs.Ytofdcmbjcpfabaa

/-- Texts put together. -/
def cat (l : List ByteArray) : ByteArray := l.foldl (· ++ ·) ⟨#[]⟩
theorem cat_snoc (l : List ByteArray) (x : ByteArray) : cat (l ++ [x]) = cat l ++ x := by simp [cat]
theorem cat_app (a b : List ByteArray) : cat (a ++ b) = cat a ++ cat b := by
  induction hb : b.length generalizing b with
  | zero =>
    rw [List.length_eq_zero_iff.1 hb, List.append_nil]
    exact (ByteArray.append_empty (b := cat a)).symm
  | succ k ih =>
    obtain ⟨c, x, rfl⟩ : ∃ c x, b = c ++ [x] := by
      have hne : b ≠ [] := fun e => by rw [e] at hb; simp at hb
      exact ⟨b.dropLast, b.getLast hne, (List.dropLast_concat_getLast hne).symm⟩
    rw [← List.append_assoc, cat_snoc, cat_snoc, ih c (by simpa using hb), ByteArray.append_assoc]

theorem cat_size : ∀ (l : List ByteArray), (∀ x ∈ l, x.size = 1) → (cat l).size = l.length := by
  intro l
  induction hb : l.length generalizing l with
  | zero => intro _; rw [List.length_eq_zero_iff.1 hb]; rfl
  | succ k ih =>
    intro h
    obtain ⟨c, x, rfl⟩ : ∃ c x, l = c ++ [x] := by
      have hne : l ≠ [] := fun e => by rw [e] at hb; simp at hb
      exact ⟨l.dropLast, l.getLast hne, (List.dropLast_concat_getLast hne).symm⟩
    rw [cat_snoc, ByteArray.size_append, ih c (by simpa using hb) (fun y hy => h y (List.mem_append_left _ hy)), h x (by simp)]

/-- The letters. -/
def names22 : ByteArray := ⟨#[97, 98, 99, 100, 101, 102, 103, 104, 105, 106, 107, 108, 109, 110, 111, 112, 113, 114, 115, 116, 117, 118, 119, 120, 121, 122, 65, 66, 67, 68, 69, 70, 71, 72, 73, 74, 75, 76, 77, 78, 79, 80, 81, 82, 83, 84, 85, 86, 87, 88, 89, 90]⟩
def nm (i : Nat) : ByteArray := names22.extract i (i + 1)
theorem nm_size {i : Nat} (h : i < 52) : (nm i).size = 1 := by
  have : ∀ i : Fin 52, (nm i).size = 1 := by decide +kernel
  exact this ⟨i, h⟩
theorem nm_inj {i j : Nat} (hi : i < 52) (hj : j < 52) (h : nm i = nm j) : i = j := by
  have : ∀ i j : Fin 52, (nm i).data.toList = (nm j).data.toList → i = j := by decide +kernel
  exact congrArg Fin.val (this ⟨i, hi⟩ ⟨j, hj⟩ (by rw [h]))

/-- The first i letters. -/
def nms (i : Nat) : List ByteArray := (List.range i).map nm
theorem nms_succ (i : Nat) : nms (i + 1) = nms i ++ [nm i] := by simp [nms, List.range_succ]
@[simp] theorem nms_len (i : Nat) : (nms i).length = i := by simp [nms]

/-- The queue behind i puts. -/
structure PutQ (i : Nat) (q : QS) : Prop where
  most : q.most = 40
  next : q.next = 1
  grace : q.grace = 0
  outs : ∀ t, q.outs t = none
  there : ∀ j, i ≤ j → j < 52 → q.there (nm j) = none
  waits : q.waits = (nms i).map fun x => ⟨x, ⟨#[]⟩, 0, 0⟩

theorem PutQ.start : PutQ 0 (QS.new 40 0) := ⟨rfl, rfl, rfl, fun _ => rfl, fun _ _ _ => rfl, rfl⟩

theorem PutQ.step {i : Nat} {q : QS} (h : PutQ i q) (hi : i < 40) : PutQ (i + 1) (q.wait ⟨nm i, ⟨#[]⟩, 0, 0⟩) := by
  refine ⟨h.most, h.next, h.grace, h.outs, fun j hj hj2 => ?_, ?_⟩
  · show fput q.there (nm i) 0 (nm j) = none
    rw [fput_other _ _ (fun e => by have := nm_inj hj2 (by omega) e; omega)]
    exact h.there j (by omega) hj2
  · show q.waits ++ _ = _
    rw [h.waits, nms_succ]
    simp

/-- The j-th task that is handed out. -/
def tk (n : Nat) (F : List ByteArray) (j : Nat) : Task := ⟨F.getD j ⟨#[]⟩, ⟨#[]⟩, 0, if j < n then 0 else 1⟩

/-- The queue behind k that were handed out; F: all that are to be. -/
structure OrdQ (n k : Nat) (F : List ByteArray) (q : QS) : Prop where
  nl : n ≤ F.length
  kl : k ≤ F.length
  fl : F.length ≤ n + min k n
  nn : n ≤ 40
  sz : ∀ x ∈ F, x.size = 1
  next : q.next = k + 1
  grace : q.grace = 0
  outs : ∀ t, q.outs t = none
  waits : q.waits = (List.range' k (F.length - k)).map (tk n F)
  pre : F.take n = nms n

theorem OrdQ.start {n : Nat} {q : QS} (h : PutQ n q) (hn : n ≤ 40) : OrdQ n 0 (nms n) q := by
  refine ⟨by simp, by simp, by simp, hn, fun x hx => ?_, by rw [h.next]; rfl, h.grace, h.outs, ?_, by rw [List.take_of_length_le (by simp)]⟩
  · obtain ⟨i, hi, rfl⟩ := List.mem_map.1 hx
    rw [List.mem_range] at hi
    exact nm_size (by omega)
  · rw [h.waits]
    apply List.ext_getElem
    · simp
    · intro i h1 h2
      simp only [List.length_map, nms_len] at h1
      simp [tk, nms, h1]

variable {n k : Nat} {F : List ByteArray} {q : QS}

theorem OrdQ.len (h : OrdQ n k F q) : q.waits.length = F.length - k := by rw [h.waits]; simp

theorem OrdQ.head (h : OrdQ n k F q) (hk : k < F.length) : q.waits = tk n F k :: (List.range' (k + 1) (F.length - (k + 1))).map (tk n F) := by
  rw [h.waits, show F.length - k = F.length - (k + 1) + 1 by omega, List.range'_succ]
  rfl

theorem OrdQ.done (h : OrdQ n k F q) (hk : k < F.length) (who : ByteArray) (till : Int) (x : QOut) : OrdQ n (k + 1) F ((q.hand 0 (tk n F k) who till).done (k + 1) x) := by
  refine ⟨h.nl, by omega, ?_, h.nn, h.sz, ?_, h.grace, fun t => ?_, ?_, h.pre⟩
  · have := h.fl; omega
  · show q.next + 1 = _; rw [h.next]; omega
  · show fdel (fput q.outs q.next _) (k + 1) t = none
    by_cases e : t = (k : Int) + 1
    · subst e; exact fdel_same _ _
    · rw [fdel_other _ e, fput_other _ _ (by rw [h.next]; exact e)]; exact h.outs t
  · show q.waits.eraseIdx 0 = _
    rw [h.head hk]; rfl

theorem OrdQ.back (h : OrdQ n k F q) (hk : k < n) (who : ByteArray) (till : Int) :
    OrdQ n (k + 1) (F ++ [F.getD k ⟨#[]⟩]) ((q.hand 0 (tk n F k) who till).back (k + 1) ⟨{ tk n F k with att := (tk n F k).att + 1 }, k + 1, who, till⟩ 0) := by
  have hkF : k < F.length := Nat.lt_of_lt_of_le hk h.nl
  refine ⟨by simp; have := h.nl; omega, by simp; omega, ?_, h.nn, fun x hx => ?_, ?_, h.grace, fun t => ?_, ?_, ?_⟩
  · have := h.fl; simp; omega
  · rcases List.mem_append.1 hx with hx | hx
    · exact h.sz x hx
    · rw [List.mem_singleton.1 hx]
      have : F.getD k ⟨#[]⟩ = F[k] := by simp [hkF]
      rw [this]; exact h.sz _ (List.getElem_mem hkF)
  · show q.next + 1 = _; rw [h.next]; omega
  · show fdel (fput q.outs q.next _) (k + 1) t = none
    by_cases e : t = (k : Int) + 1
    · subst e; exact fdel_same _ _
    · rw [fdel_other _ e, fput_other _ _ (by rw [h.next]; exact e)]; exact h.outs t
  · show q.waits.eraseIdx 0 ++ _ = _
    rw [h.head hkF]
    have hl : (F ++ [F.getD k ⟨#[]⟩]).length - (k + 1) = F.length - (k + 1) + 1 := by simp; omega
    rw [hl, List.range'_concat, List.map_append]
    congr 1
    · show (List.range' (k + 1) (F.length - (k + 1))).map _ = _
      refine List.map_congr_left fun j hj => ?_
      rw [List.mem_range'] at hj
      obtain ⟨d, hd, rfl⟩ := hj
      unfold tk
      rw [List.getD_eq_getElem?_getD, List.getD_eq_getElem?_getD, List.getElem?_append_left (by omega)]
    · simp only [List.map_cons, List.map_nil, List.cons.injEq, and_true]
      unfold tk
      rw [show k + 1 + 1 * (F.length - (k + 1)) = F.length by omega]
      simp [hk, Nat.not_lt.2 h.nl]
  · rw [List.take_append_of_le_length h.nl]; exact h.pre

theorem OrdQ.first (h : OrdQ n k F q) (hk : k < F.length) (who : ByteArray) : idxI (fun t => forB q.grace t who 0) q.waits = 0 := by
  rw [h.head hk]
  exact idxI_cons_hit (forB_free (Int.le_refl _) rfl)

theorem take_snoc' (F : List ByteArray) {k : Nat} (hk : k < F.length) : F.take (k + 1) = F.take k ++ [F.getD k ⟨#[]⟩] := by
  rw [List.take_succ_eq_append_getElem hk]
  simp [hk]

end Go.Proofs.Ytofdcmbjcpfabaa
