/- A range over a map that is a finite function: every entry comes once, in an order that the tape says. -/
import Derived.Test.YtofdcmbjcpfabaaKit
import Derived.Sort.MapsRangeIn
import Derived.RangeFuncNested
namespace Go.Proofs.Ytofdcmbjcpfabaa
open Go.RowKit Go.Maps Go.MapKept Go.ChangeMaps

section
variable {κ ν : Type} {P : Program} {kt : TypeId} {ek : κ → Value} {ev : ν → Value} {w : World} {b r n : Nat} {f : κ → Option ν} {ps : List (κ × ν)}

/-- The iterator in block r over the map in block b has handed out ps. -/
def RangeFn (w : World) (P : Program) (kt : TypeId) (ek : κ → Value) (ev : ν → Value) (b r n : Nat) (f : κ → Option ν) (ps : List (κ × ν)) : Prop :=
  ∃ (es : Array MapEntry) (clock since c0 : Nat) (tr : List MapEntry), w.heap[b]? = some (.map es clock) ∧ Stamped es clock ∧ es.size = n ∧
    (∀ x ∈ es.toList, ∃ k v, x.key = ek k ∧ x.val = ev v ∧ f k = some v ∧ ∃ l, keyOf P kt (ek k) = some l) ∧
    (∀ k v, f k = some v → ∃ x ∈ es.toList, x.key = ek k ∧ x.val = ev v) ∧
    w.heap[r]? = some (.mapIter (some b) since (tr.map (fun e : MapEntry => e.born)).toArray c0) ∧ (∀ x ∈ es.toList, x.born < since) ∧ since ≤ c0 ∧ since ≤ clock ∧
    (∀ e ∈ tr, e ∈ es.toList) ∧ tr.Nodup ∧ tr.map (fun e : MapEntry => (e.key, e.val)) = ps.map (fun p => (ek p.1, ev p.2))

theorem RangeFn.at_blocks (h : RangeFn w P kt ek ev b r n f ps) {w' : World} (hb : w'.heap[b]? = w.heap[b]?) (hr : w'.heap[r]? = w.heap[r]?) : RangeFn w' P kt ek ev b r n f ps := by
  obtain ⟨es, clock, since, c0, tr, h1, h2, h3, h4, h5, h6, h7⟩ := h
  exact ⟨es, clock, since, c0, tr, hb.trans h1, h2, h3, h4, h5, hr.trans h6, h7⟩

theorem RangeFn.lt (h : RangeFn w P kt ek ev b r n f ps) : b < w.heap.size ∧ r < w.heap.size ∧ b ≠ r := by
  obtain ⟨es, clock, since, c0, tr, h1, h2, h3, h4, h5, h6, h7⟩ := h
  exact ⟨block_lt h1, block_lt h6, fun e => by subst e; rw [h1] at h6; cases h6⟩

theorem RangeFn.of_walks (h : RangeFn w P kt ek ev b r n f ps) {w' : World} (hk : KeepsWalks w w') : RangeFn w' P kt ek ev b r n f ps := by
  have h0 := h
  obtain ⟨es, clock, since, c0, tr, h1, h2, h3, h4, h5, h6, h7⟩ := h
  exact h0.at_blocks ((hk.same b _ h1 rfl).trans h1.symm) ((hk.same r _ h6 rfl).trans h6.symm)

theorem RangeFn.iter (h : RangeFn w P kt ek ev b r n f ps) : ∃ o : Obj, w.heap[r]? = some o ∧ o.isWalk = true := by
  obtain ⟨es, clock, since, c0, tr, h1, h2, h3, h4, h5, h6, h7⟩ := h
  exact ⟨_, h6, rfl⟩

theorem nodup_len {α : Type} : ∀ {l m : List α}, l.Nodup → (∀ x ∈ l, x ∈ m) → l.length ≤ m.length
  | [], _, _, _ => Nat.zero_le _
  | x :: l, m, hn, hm => by
    rw [List.nodup_cons] at hn
    obtain ⟨s, t, rfl⟩ := List.append_of_mem (hm x List.mem_cons_self)
    have := nodup_len (l := l) (m := s ++ t) hn.2 (fun y hy => by
      have h1 := hm y (List.mem_cons_of_mem _ hy)
      rcases List.mem_append.1 h1 with h | h
      · exact List.mem_append_left _ h
      · rcases List.mem_cons.1 h with h | h
        · subst h; exact absurd hy hn.1
        · exact List.mem_append_right _ h)
    simp at this ⊢
    omega

theorem entry_same {es : Array MapEntry} {clock : Nat} (hst : Stamped es clock) {x y : MapEntry} (hx : x ∈ es.toList) (hy : y ∈ es.toList) (h : x.key = y.key) : x = y := by
  obtain ⟨i, hi⟩ := List.mem_iff_getElem?.1 hx
  obtain ⟨j, hj⟩ := List.mem_iff_getElem?.1 hy
  have := idx_unique ((stamped_iff _ _).1 hst).2.2 hi hj h
  subst this
  rw [hi] at hj
  exact Option.some.inj hj

theorem born_same {es : Array MapEntry} {clock : Nat} (hst : Stamped es clock) {x y : MapEntry} (hx : x ∈ es.toList) (hy : y ∈ es.toList) (h : x.born = y.born) : x = y := by
  have hn := ((stamped_iff _ _).1 hst).2.1
  have h1 := find_born x es.toList hn hx
  have h2 := find_born y es.toList hn hy
  rw [h, h2] at h1
  exact (Option.some.inj h1).symm

/-- What has come is of the map, no key twice. -/
theorem RangeFn.part (h : RangeFn w P kt ek ev b r n f ps) (hk : ∀ k k', ek k = ek k' → k = k') (hv : ∀ v v', ev v = ev v' → v = v') : (∀ p ∈ ps, f p.1 = some p.2) ∧ (ps.map Prod.fst).Nodup ∧ ps.length ≤ n := by
  obtain ⟨es, clock, since, c0, tr, h1, hst, hn, h4, h5, h6, h7, h8, h9, hin, hnd, heq⟩ := h
  have hmem : ∀ p ∈ ps, ∃ e ∈ tr, e.key = ek p.1 ∧ e.val = ev p.2 := fun p hp => by
    have : (ek p.1, ev p.2) ∈ tr.map (fun e : MapEntry => (e.key, e.val)) := by rw [heq]; exact List.mem_map.2 ⟨p, hp, rfl⟩
    obtain ⟨e, he, h⟩ := List.mem_map.1 this
    exact ⟨e, he, congrArg Prod.fst h, congrArg Prod.snd h⟩
  refine ⟨fun p hp => ?_, ?_, ?_⟩
  · obtain ⟨e, he, q1, q2⟩ := hmem p hp
    obtain ⟨k, v, e1, e2, hf, _⟩ := h4 e (hin e he)
    rw [hk _ _ (q1.symm.trans e1), hv _ _ (q2.symm.trans e2)]
    exact hf
  · have hkeys : tr.map (fun e : MapEntry => e.key) = (ps.map Prod.fst).map ek := by
      have := congrArg (List.map Prod.fst) heq
      simpa [List.map_map, Function.comp_def] using this
    have hnk : (tr.map (fun e : MapEntry => e.key)).Nodup := by
      refine List.pairwise_map.2 ?_
      refine List.Pairwise.imp_of_mem ?_ hnd
      intro a c ha hc hac e
      exact hac (entry_same hst (hin a ha) (hin c hc) e)
    rw [hkeys] at hnk
    exact (List.pairwise_map.1 hnk).imp (fun {a c} h e => h (by rw [e]))
  · have hl : tr.length = ps.length := by have := congrArg List.length heq; simpa using this
    have : tr.length ≤ es.toList.length := nodup_len hnd (fun e he => hin e he)
    simp at this
    omega

/-- How many are to come. -/
def leftN (w : World) (b r : Nat) : Nat := match w.heap[b]?, w.heap[r]? with
  | some (.map es _), some (.mapIter _ _ seen _) => es.size - seen.size
  | _, _ => 0

theorem RangeFn.leftN (h : RangeFn w P kt ek ev b r n f ps) : leftN w b r = n - ps.length := by
  obtain ⟨es, clock, since, c0, tr, h1, hst, hn, h4, h5, h6, h7, h8, h9, hin, hnd, heq⟩ := h
  have hl : tr.length = ps.length := by have := congrArg List.length heq; simpa using this
  unfold Go.Proofs.Ytofdcmbjcpfabaa.leftN
  rw [h1, h6]
  simp [hn, hl]

theorem MapFn.range (h : MapFn w P kt ek ev b n f) {t e : TypeId} (ht : P.underlying t = some (.map kt e)) :
    ∃ o, (Instr.range t (.map (some b))).run P w = .ok (.pointer (some ⟨w.heap.size, 0, none⟩)) (w.alloc o) ∧ RangeFn (w.alloc o) P kt ek ev b w.heap.size n f [] := by
  have hlt := h.lt
  obtain ⟨es, clock, h1, h2, h3, h4, h5⟩ := h
  refine ⟨_, run_range_map w t kt e b es clock ht h1, es, clock, clock, clock, [], ?_, h2, h3, h4, h5, heap_alloc_new _ _, ((stamped_iff _ _).1 h2).1, Nat.le_refl _, Nat.le_refl _, (by simp), List.nodup_nil, rfl⟩
  rw [heap_alloc_old _ _ hlt]; exact h1

theorem RangeFn.next (h : RangeFn w P kt ek ev b r n f ps) (hk : ∀ k k', ek k = ek k' → k = k') (hv : ∀ v v', ev v = ev v' → v = v') (ty : TypeId) :
    ((∀ k v, f k = some v → (k, v) ∈ ps) ∧ (Instr.next (.pointer (some ⟨r, 0, none⟩)) false ty).run P w = .ok (.tuple #[.bool false]) w) ∨
    ∃ k v w', f k = some v ∧ k ∉ ps.map Prod.fst ∧ ps.length < n ∧ (∃ l, keyOf P kt (ek k) = some l) ∧ (Instr.next (.pointer (some ⟨r, 0, none⟩)) false ty).run P w = .ok (.tuple #[.bool true, ek k, ev v]) w' ∧
      RangeFn w' P kt ek ev b r n f (ps ++ [(k, v)]) ∧ w.grownBy w' (some r) ∧ w'.heap.size = w.heap.size ∧ (Instr.entry (.pointer (some ⟨r, 0, none⟩))).run P w' = .ok (.tuple #[ek k, ev v]) w' := by
  have hlt := h.lt
  obtain ⟨es, clock, since, c0, tr, h1, hst, hn, h4, h5, h6, h7, h8, h9, hin, hnd, heq⟩ := h
  rcases run_next_at (P := P) w ty r b since c0 _ es clock h6 h1 h7 h8 with ⟨h0, hrun⟩ | ⟨e, he, w1, hal, hrun⟩
  · refine .inl ⟨fun k v hf => ?_, hrun⟩
    obtain ⟨x, hx, e1, e2⟩ := h5 k v hf
    have hs := all_seen es _ h0 x hx
    have hxt : x ∈ tr := by
      simp only [List.contains_toArray, List.contains_eq_mem, List.mem_map, decide_eq_true_eq] at hs
      obtain ⟨y, hy, hb⟩ := hs
      rw [← born_same hst (hin y hy) hx hb]; exact hy
    have : (ek k, ev v) ∈ ps.map (fun p => (ek p.1, ev p.2)) := by rw [← heq]; exact List.mem_map.2 ⟨x, hxt, by rw [e1, e2]⟩
    obtain ⟨p, hp, hpe⟩ := List.mem_map.1 this
    have q1 := hk _ _ (congrArg Prod.fst hpe)
    have q2 := hv _ _ (congrArg Prod.snd hpe)
    rw [← q1, ← q2]; exact hp
  · obtain ⟨hem, hes⟩ := mem_left he
    obtain ⟨k, v, e1, e2, hf, hl⟩ := h4 e hem
    have hnt : e ∉ tr := fun hm => by
      simp only [List.contains_toArray, List.contains_eq_mem, List.mem_map, decide_eq_false_iff_not] at hes
      exact hes ⟨e, hm, rfl⟩
    have hr1 : w1.heap[r]? = some (.mapIter (some b) since (tr.map (fun e : MapEntry => e.born)).toArray c0) := by rcases hal with rfl | rfl <;> exact h6
    have hb1 : w1.heap[b]? = some (.map es clock) := by rcases hal with rfl | rfl <;> exact h1
    have hset := heap_set (o' := .mapIter (some b) since ((tr.map (fun e : MapEntry => e.born)).toArray.push e.born) clock) hr1
    have hb' : (setBlock w1 r (.mapIter (some b) since ((tr.map (fun e : MapEntry => e.born)).toArray.push e.born) clock)).heap[b]? = some (.map es clock) := (hset.2 b (fun e1 => hlt.2.2 e1)).trans hb1
    have hlen : tr.length = ps.length := by have := congrArg List.length heq; simpa using this
    have hnd2 : (tr ++ [e]).Nodup := by
      rw [List.nodup_append]
      refine ⟨hnd, by simp, fun a ha c hc => ?_⟩
      rw [List.mem_singleton] at hc
      subst hc
      exact fun e => hnt (e ▸ ha)
    have hin2 : ∀ x ∈ tr ++ [e], x ∈ es.toList := fun x hx => by
      rcases List.mem_append.1 hx with hx | hx
      · exact hin x hx
      · rw [List.mem_singleton.1 hx]; exact hem
    refine .inr ⟨k, v, _, hf, fun hm => ?_, ?_, hl, by rw [hrun, e1, e2], ?_, ?_, ?_, ?_⟩
    · obtain ⟨p, hp, rfl⟩ := List.mem_map.1 hm
      have : (ek p.1, ev p.2) ∈ tr.map (fun e : MapEntry => (e.key, e.val)) := by rw [heq]; exact List.mem_map.2 ⟨p, hp, rfl⟩
      obtain ⟨y, hy, h⟩ := List.mem_map.1 this
      have := entry_same hst (hin y hy) hem ((congrArg Prod.fst h).trans e1.symm)
      exact hnt (this ▸ hy)
    · have : (tr ++ [e]).length ≤ es.toList.length := nodup_len hnd2 (fun e he => hin2 e he)
      simp at this
      omega
    · refine ⟨es, clock, since, clock, tr ++ [e], hb', hst, hn, h4, h5, ?_, h7, h9, h9, hin2, hnd2, ?_⟩
      · exact hset.1.trans (by simp)
      · simp [heq, e1, e2]
    · rcases hal with rfl | rfl <;> exact ⟨rfl, rfl, rfl, by simp [setBlock], fun i _ hi => hset.2 i (fun e1 => hi (by rw [e1]))⟩
    · rcases hal with rfl | rfl <;> simp [setBlock]
    · rw [← e1, ← e2]
      exact run_entry_at _ r b since _ es clock e hset.1 hb' hem ((stamped_iff es clock).1 hst).2.1
end

section
variable {κ ν : Type} {F : Fence} {m : Nat} {P : Program} {kt : TypeId} {ek : κ → Value} {ev : ν → Value} (w : World) {ops : Array Oper} {rest : List Oper} {o : Oper} {a : Act} {Q : Exit → Act → World → Prop}

/-- 'range m'. -/
theorem wpList_range_fn (hg : o.guard = none) (x : Operand) (t e : TypeId) (hop : o.op = Op.range t x) (ht : P.underlying t = some (.map kt e)) (b n : Nat) (f : κ → Option ν)
    (hm : a.eval x = .map (some b)) (h : MapFn w P kt ek ev b n f)
    (hK : ∀ w', RangeFn w' P kt ek ev b w.heap.size n f [] → Hid (∃ o, w' = w.alloc o) → wpList P ops Q rest (a.put o.dst (.pointer (some ⟨w.heap.size, 0, none⟩))) w') :
    wpList P ops Q (o :: rest) a w := by
  refine wpList_plain hg fun K' hK' => ?_
  obtain ⟨ob, hrun, hr⟩ := h.range ht
  unfold Oper.wp
  simp [execOp, hop, hm, hrun, Result.andThen]
  exact hK' _ _ (hK _ hr ⟨ob, rfl⟩)

theorem wpListIn_range_fn (hg : o.guard = none) (x : Operand) (t e : TypeId) (hop : o.op = Op.range t x) (ht : P.underlying t = some (.map kt e)) (b n : Nat) (f : κ → Option ν)
    (hm : a.eval x = .map (some b)) (h : MapFn w P kt ek ev b n f)
    (hK : ∀ w', RangeFn w' P kt ek ev b w.heap.size n f [] → Hid (∃ o, w' = w.alloc o) → wpListIn F m P ops Q rest (a.put o.dst (.pointer (some ⟨w.heap.size, 0, none⟩))) w') :
    wpListIn F m P ops Q (o :: rest) a w := by
  refine wpListIn_plain hg fun K' hK' => ?_
  obtain ⟨ob, hrun, hr⟩ := h.range ht
  unfold Oper.wpIn
  refine ⟨?_, ?_⟩
  · simp [Oper.about, hop]
  · rw [Oper.semAt_plain F _ _ (by rw [hop]; intro c hc'; cases hc')]
    simp [execOp, hop, hm, hrun, Result.andThen]
    exact hK' _ _ (hK _ hr ⟨ob, rfl⟩)

/-- The step. -/
theorem wpList_next_fn (hg : o.guard = none) (it : Operand) (hop : o.op = Op.next it false) (hk : ∀ k k', ek k = ek k' → k = k') (hv : ∀ v v', ev v = ev v' → v = v') (b r n : Nat) (f : κ → Option ν) (ps : List (κ × ν))
    (hit : a.eval it = .pointer (some ⟨r, 0, none⟩)) (h : RangeFn w P kt ek ev b r n f ps)
    (hDone : (∀ k v, f k = some v → (k, v) ∈ ps) → wpList P ops Q rest (a.put o.dst (.tuple #[.bool false])) w)
    (hMore : ∀ (k : κ) (v : ν) (w' : World), f k = some v → k ∉ ps.map Prod.fst → ps.length < n → (∃ l, keyOf P kt (ek k) = some l) → RangeFn w' P kt ek ev b r n f (ps ++ [(k, v)]) → w.grownBy w' (some r) → w'.heap.size = w.heap.size →
      (Instr.entry (.pointer (some ⟨r, 0, none⟩))).run P w' = .ok (.tuple #[ek k, ev v]) w' → wpList P ops Q rest (a.put o.dst (.tuple #[.bool true, ek k, ev v])) w') :
    wpList P ops Q (o :: rest) a w := by
  refine wpList_plain hg fun K' hK' => ?_
  unfold Oper.wp
  rcases h.next hk hv o.type with ⟨h0, hrun⟩ | ⟨k, v, w', q1, q2, q3, q4, hrun, q5, q6, q7, q8⟩
  · simp [execOp, hop, hit, hrun, Result.andThen]
    exact hK' _ _ (hDone h0)
  · simp [execOp, hop, hit, hrun, Result.andThen]
    exact hK' _ _ (hMore k v w' q1 q2 q3 q4 q5 q6 q7 q8)

theorem wpListIn_next_fn (hg : o.guard = none) (it : Operand) (hop : o.op = Op.next it false) (hk : ∀ k k', ek k = ek k' → k = k') (hv : ∀ v v', ev v = ev v' → v = v') (b r n : Nat) (f : κ → Option ν) (ps : List (κ × ν))
    (hit : a.eval it = .pointer (some ⟨r, 0, none⟩)) (h : RangeFn w P kt ek ev b r n f ps)
    (hDone : (∀ k v, f k = some v → (k, v) ∈ ps) → wpListIn F m P ops Q rest (a.put o.dst (.tuple #[.bool false])) w)
    (hMore : ∀ (k : κ) (v : ν) (w' : World), f k = some v → k ∉ ps.map Prod.fst → ps.length < n → (∃ l, keyOf P kt (ek k) = some l) → RangeFn w' P kt ek ev b r n f (ps ++ [(k, v)]) → w.grownBy w' (some r) → w'.heap.size = w.heap.size →
      (Instr.entry (.pointer (some ⟨r, 0, none⟩))).run P w' = .ok (.tuple #[ek k, ev v]) w' → wpListIn F m P ops Q rest (a.put o.dst (.tuple #[.bool true, ek k, ev v])) w') :
    wpListIn F m P ops Q (o :: rest) a w := by
  refine wpListIn_plain hg fun K' hK' => ?_
  unfold Oper.wpIn
  refine ⟨by simp [Oper.about, hop], ?_⟩
  rw [Oper.semAt_plain F _ _ (by rw [hop]; intro c hc'; cases hc')]
  rcases h.next hk hv o.type with ⟨h0, hrun⟩ | ⟨k, v, w', q1, q2, q3, q4, hrun, q5, q6, q7, q8⟩
  · simp [execOp, hop, hit, hrun, Result.andThen]
    exact hK' _ _ (hDone h0)
  · simp [execOp, hop, hit, hrun, Result.andThen]
    exact hK' _ _ (hMore k v w' q1 q2 q3 q4 q5 q6 q7 q8)
end

end Go.Proofs.Ytofdcmbjcpfabaa
