/- General words over worlds: what a call leaves alone, new blocks, footprints; maps as finite functions. No program here. -/
import Derived.WalkKit
import Derived.Maps.OwnSet
import Derived.Sort.Grow
import Derived.Deep.Draws
import Derived.Deep.AppendLies
namespace Go.Proofs.Ytofdcmbjcpfabaa
open Go.RowKit Go.Maps Go.MapKept Go.ChangeMaps

/-! ### what stays -/

/-- From w to w' the blocks of w outside S are as they were; the streams too. -/
structure Keeps (S : Nat → Prop) (w w' : World) : Prop where
  os : w'.os = w.os
  tape : w'.tape = w.tape
  output : w'.output = w.output
  size : w.heap.size ≤ w'.heap.size
  block : ∀ k, k < w.heap.size → ¬ S k → w'.heap[k]? = w.heap[k]?

def NoBlk : Nat → Prop := fun _ => False

theorem Keeps.refl (S : Nat → Prop) (w : World) : Keeps S w w := ⟨rfl, rfl, rfl, Nat.le_refl _, fun _ _ _ => rfl⟩

theorem Keeps.trans {S T : Nat → Prop} {a b c : World} (h : Keeps S a b) (k : Keeps T b c) (hT : ∀ i, i < a.heap.size → T i → S i) : Keeps S a c :=
  ⟨k.os.trans h.os, k.tape.trans h.tape, k.output.trans h.output, Nat.le_trans h.size k.size,
   fun i hi hs => (k.block i (Nat.lt_of_lt_of_le hi h.size) (fun ht => hs (hT i hi ht))).trans (h.block i hi hs)⟩

theorem Keeps.mono {S T : Nat → Prop} {a b : World} (h : Keeps S a b) (hT : ∀ i, i < a.heap.size → S i → T i) : Keeps T a b :=
  ⟨h.os, h.tape, h.output, h.size, fun i hi hs => h.block i hi (fun x => hs (hT i hi x))⟩

theorem Keeps.drew {S : Nat → Prop} {a w : World} (h : Keeps S a w) : Keeps S a w.drew := ⟨h.os, h.tape, h.output, h.size, h.block⟩
theorem Keeps.drewN {S : Nat → Prop} {a w : World} (h : Keeps S a w) (n : Nat) : Keeps S a (w.drewN n) := ⟨h.os, h.tape, h.output, h.size, h.block⟩

theorem Keeps.alloc {S : Nat → Prop} {a w : World} (h : Keeps S a w) (o : Obj) : Keeps S a (w.alloc o) :=
  h.trans (T := NoBlk) ⟨rfl, rfl, rfl, by simp, fun k hk _ => Below.heap_alloc _ _ _ hk⟩ (fun _ _ x => x.elim)

theorem Keeps.setCell {S : Nat → Prop} {a w : World} (h : Keeps S a w) {p : Addr} (hp : p.block < a.heap.size → S p.block) (u : Value) : Keeps S a (w.setCell p u) :=
  h.trans (T := fun k => k = p.block) ⟨rfl, rfl, rfl, by simp [World.setCell], fun k _ hk => Below.heap_setCell _ _ _ _ hk⟩ (fun i hi e => by subst e; exact hp hi)

theorem heap_setCells (b : Nat) : ∀ (vs : List Value) (o : Nat) (w : World) (k : Nat), k ≠ b → (w.setCells b o vs).heap[k]? = w.heap[k]?
  | [], _, _, _, _ => rfl
  | v :: vs, o, w, k, h => by
    show ((w.setCell ⟨b, o, none⟩ v).setCells b (o + 1) vs).heap[k]? = _
    rw [heap_setCells b vs (o + 1) _ k h, Below.heap_setCell _ _ _ _ h]

theorem setCells_same (b : Nat) : ∀ (vs : List Value) (o : Nat) (w : World),
    (w.setCells b o vs).os = w.os ∧ (w.setCells b o vs).tape = w.tape ∧ (w.setCells b o vs).output = w.output ∧ (w.setCells b o vs).heap.size = w.heap.size
  | [], _, _ => ⟨rfl, rfl, rfl, rfl⟩
  | v :: vs, o, w => by
    have h := setCells_same b vs (o + 1) (w.setCell ⟨b, o, none⟩ v)
    exact ⟨h.1, h.2.1, h.2.2.1, h.2.2.2.trans (by simp [World.setCell])⟩

@[simp] theorem size_setCells (b : Nat) (vs : List Value) (o : Nat) (w : World) : (w.setCells b o vs).heap.size = w.heap.size := (setCells_same b vs o w).2.2.2

theorem Keeps.setCells {S : Nat → Prop} {a w : World} (h : Keeps S a w) {b : Nat} (hp : b < a.heap.size → S b) (o : Nat) (vs : List Value) : Keeps S a (w.setCells b o vs) :=
  h.trans (T := fun k => k = b) (by
    have q := setCells_same b vs o w
    exact ⟨q.1, q.2.1, q.2.2.1, Nat.le_of_eq q.2.2.2.symm, fun k _ hk => heap_setCells b vs o w k hk⟩) (fun i hi e => by subst e; exact hp hi)

theorem Keeps.setBlock {S : Nat → Prop} {a w : World} (h : Keeps S a w) {b : Nat} (hp : b < a.heap.size → S b) (o : Obj) : Keeps S a (setBlock w b o) :=
  h.trans (T := fun k => k = b) ⟨rfl, rfl, rfl, by simp [ChangeMaps.setBlock], fun k _ hk => by
    simp only [ChangeMaps.setBlock, Array.getElem?_setIfInBounds]; rw [if_neg (fun e => hk e.symm)]⟩ (fun i hi e => by subst e; exact hp hi)

theorem Keeps.grown {S : Nat → Prop} {a w w' : World} {row : Option Nat} (h : Keeps S a w) (hg : w.grownBy w' row) (hr : ∀ k, row = some k → k < a.heap.size → S k) : Keeps S a w' :=
  h.trans (T := fun k => row = some k) ⟨hg.os, hg.tape, hg.output, hg.size, fun k hk hn => hg.block k hk (fun e => hn e.symm)⟩ (fun i hi e => hr i e hi)

theorem Keeps.below {S : Nat → Prop} {w w' : World} {B : Nat} (h : Keeps S w w') (hB : B ≤ w.heap.size) (hS : ∀ k, S k → B ≤ k) : Below B w w' :=
  ⟨h.os, h.tape, h.output, h.size, fun k hk => h.block k (by omega) (fun s => by have := hS k s; omega)⟩

theorem Below.keeps {w w' : World} {B : Nat} (h : Below B w w') : Keeps (fun k => B ≤ k) w w' :=
  ⟨h.os, h.tape, h.output, h.size, fun k _ hk => h.block k (by omega)⟩

theorem Keeps.cell {S : Nat → Prop} {w w' : World} (h : Keeps S w w') {p : Addr} (hb : p.block < w.heap.size) (hS : ¬ S p.block) : w'.cell? p = w.cell? p :=
  World.cell?_of_block (w := w) (h.block _ hb hS)
theorem Keeps.frozen {S : Nat → Prop} {w w' : World} (h : Keeps S w w') {p : Addr} (hb : p.block < w.heap.size) (hS : ¬ S p.block) : w'.frozen? p = w.frozen? p :=
  World.frozen?_of_block (w := w) (h.block _ hb hS)

theorem block_lt {w : World} {k : Nat} {o : Obj} (h : w.heap[k]? = some o) : k < w.heap.size := (Array.getElem?_eq_some_iff.1 h).1

/-- A walk stops and gives its world a name. -/
theorem name_world {P : Program} {c : Code} {Q : Exit → Act → World → Prop} {a : Act} {w : World} (h : ∀ w1, w1 = w → c.wp P Q a w1) : c.wp P Q a w := h w rfl

/-! ### footprints -/

/-- A call that may turn the blocks S of w leaves an object whose blocks are S'. -/
structure Moves (S : Nat → Prop) (w : World) (S' : Nat → Prop) (w' : World) : Prop where
  keeps : Keeps S w w'
  foot : ∀ k, S' k → S k ∨ w.heap.size ≤ k

theorem Moves.refl (S : Nat → Prop) (w : World) : Moves S w S w := ⟨Keeps.refl _ _, fun _ h => .inl h⟩
theorem Moves.trans {S S' S'' : Nat → Prop} {a b c : World} (h : Moves S a S' b) (k : Moves S' b S'' c) : Moves S a S'' c :=
  ⟨h.keeps.trans k.keeps (fun i hi hs => (h.foot i hs).resolve_right (by omega)),
   fun i hi => (k.foot i hi).elim (h.foot i) (fun x => .inr (Nat.le_trans h.keeps.size x))⟩

/-- Another object stays apart. -/
theorem Moves.apart {S S' T : Nat → Prop} {w w' : World} (h : Moves S w S' w') (hT : ∀ k, T k → k < w.heap.size) (hd : ∀ k, S k → ¬ T k) : ∀ k, S' k → ¬ T k :=
  fun k hk ht => (h.foot k hk).elim (fun x => hd k x ht) (fun x => by have := hT k ht; omega)

/-! ### maps as finite functions -/

section
variable {κ ν : Type}

/-- Block b of w is a map of n entries, keys of type kt; f is what it holds. -/
def MapFn (w : World) (P : Program) (kt : TypeId) (ek : κ → Value) (ev : ν → Value) (b n : Nat) (f : κ → Option ν) : Prop :=
  ∃ es clock, w.heap[b]? = some (.map es clock) ∧ Stamped es clock ∧ es.size = n ∧
    (∀ x ∈ es.toList, ∃ k v, x.key = ek k ∧ x.val = ev v ∧ f k = some v ∧ ∃ l, keyOf P kt (ek k) = some l) ∧
    (∀ k v, f k = some v → ∃ x ∈ es.toList, x.key = ek k ∧ x.val = ev v)

variable {P : Program} {kt : TypeId} {ek : κ → Value} {ev : ν → Value} {w : World} {b n : Nat} {f : κ → Option ν}

theorem MapFn.lt (h : MapFn w P kt ek ev b n f) : b < w.heap.size := by
  obtain ⟨es, clock, hb, _⟩ := h; exact block_lt hb

theorem MapFn.at_block (h : MapFn w P kt ek ev b n f) {w' : World} (hb : w'.heap[b]? = w.heap[b]?) : MapFn w' P kt ek ev b n f := by
  obtain ⟨es, clock, h1, h2⟩ := h; exact ⟨es, clock, hb.trans h1, h2⟩

theorem MapFn_made (w : World) (P : Program) (kt : TypeId) (ek : κ → Value) (ev : ν → Value) : MapFn (w.alloc (.map #[] 0)) P kt ek ev w.heap.size 0 (fun _ => none) :=
  ⟨#[], 0, (heap_alloc w _).1, stamped_empty 0, rfl, by simp, by simp⟩

theorem MapFn_of_new {w : World} {b : Nat} (hb : w.heap[b]? = some (.map #[] 0)) : MapFn w P kt ek ev b 0 (fun _ => none) :=
  ⟨#[], 0, hb, stamped_empty 0, rfl, by simp, by simp⟩

theorem MapFn.keysIn (h : MapFn w P kt ek ev b n f) {k : κ} {v : ν} (hinj : ∀ k k', ek k = ek k' → k = k') (hf : f k = some v) : ∃ l, keyOf P kt (ek k) = some l := by
  obtain ⟨es, clock, hb, _, _, h3, h4⟩ := h
  obtain ⟨x, hx, e1, _⟩ := h4 k v hf
  obtain ⟨k', v', e1', _, _, hl⟩ := h3 x hx
  rw [hinj k k' (e1.symm.trans e1')]; exact hl

/-- 'v, ok := m[k]' and 'm[k]'. -/
theorem MapFn.look (h : MapFn w P kt ek ev b n f) (c : Bool) {t e : TypeId} (K : Keyed P kt) (ht : P.underlying t = some (.map kt e)) {z : Value} (hz : (zeroValue e).run P w = .ok z w)
    (hinj : ∀ k k', ek k = ek k' → k = k') {k : κ} {l : Lit} (hkey : keyOf P kt (ek k) = some l) :
    (Instr.lookup t (.map (some b)) (ek k) c).run P w = .ok (if c then .tuple #[((f k).map ev).getD z, .bool (f k).isSome] else ((f k).map ev).getD z) w := by
  obtain ⟨es, clock, hb, hst, _, h3, h4⟩ := h
  have hks : ∀ x ∈ es.toList, ∃ l, keyOf P kt x.key = some l := fun x hx => by
    obtain ⟨k', v', e1, _, _, hl⟩ := h3 x hx; rw [e1]; exact hl
  rcases K.find w hkey es.toList hks with ⟨h1, h2⟩ | ⟨j, e0, h1, h2, e3⟩
  · have hn : f k = none := by
      cases hf : f k with
      | none => rfl
      | some v => obtain ⟨x, hx, e1, _⟩ := h4 k v hf; exact absurd e1 (h2 x hx)
    rw [hn]
    simp [Instr.lookup, run_underlying ht, MapKept.run_getObj_map hb, K.check w _ hkey, h1, hz, Result.andThen]
  · have hm0 : e0 ∈ es.toList := List.mem_of_getElem? h2
    obtain ⟨k', v', e1, e2, hf, _⟩ := h3 e0 hm0
    have : k' = k := hinj _ _ (e1.symm.trans e3)
    subst this
    rw [hf]
    simp [Instr.lookup, run_underlying ht, MapKept.run_getObj_map hb, K.check w _ hkey, h1, Result.andThen, e2]

theorem MapFn.len (h : MapFn w P kt ek ev b n f) {t e : TypeId} (ht : P.underlying t = some (.map kt e)) (ty : TypeId) : (Builtin.len_ #[t] ty #[.map (some b)]).run P w = .ok (.int .i64 n) w := by
  obtain ⟨es, clock, hb, _, rfl, _⟩ := h
  simp [Builtin.len_, run_underlying ht, MapKept.run_getObj_map hb, goInt, Result.andThen]

theorem heap_setBlock (w : World) (b : Nat) (o : Obj) (hb : b < w.heap.size) : (setBlock w b o).heap[b]? = some o := by
  simp [setBlock, hb]

theorem idx_unique : ∀ {l : List MapEntry} (_ : l.Pairwise (fun x y => x.key ≠ y.key)) {i j : Nat} {a c : MapEntry}, l[i]? = some a → l[j]? = some c → a.key = c.key → i = j := by
  intro l hl i j a c hi hj hk
  have hi' := List.getElem?_eq_some_iff.1 hi
  have hj' := List.getElem?_eq_some_iff.1 hj
  obtain ⟨hi1, hi2⟩ := hi'
  obtain ⟨hj1, hj2⟩ := hj'
  rcases Nat.lt_trichotomy i j with hlt | heq | hlt
  · have := List.pairwise_iff_getElem.1 hl i j hi1 hj1 hlt
    rw [hi2, hj2] at this; exact absurd hk this
  · exact heq
  · have := List.pairwise_iff_getElem.1 hl j i hj1 hi1 hlt
    rw [hi2, hj2] at this; exact absurd hk.symm this

/-- f but for k, which has v. -/
def fput [DecidableEq κ] (f : κ → Option ν) (k : κ) (v : ν) : κ → Option ν := fun k' => if k' = k then some v else f k'
/-- f but for k, which has nothing. -/
def fdel [DecidableEq κ] (f : κ → Option ν) (k : κ) : κ → Option ν := fun k' => if k' = k then none else f k'
theorem fput_same [DecidableEq κ] (f : κ → Option ν) (k : κ) (v : ν) : fput f k v k = some v := if_pos rfl
theorem fput_other [DecidableEq κ] (f : κ → Option ν) {k k' : κ} (v : ν) (h : k' ≠ k) : fput f k v k' = f k' := if_neg h
theorem fdel_same [DecidableEq κ] (f : κ → Option ν) (k : κ) : fdel f k k = none := if_pos rfl
theorem fdel_other [DecidableEq κ] (f : κ → Option ν) {k k' : κ} (h : k' ≠ k) : fdel f k k' = f k' := if_neg h

variable [DecidableEq κ]

/-- 'm[k] = v'. -/
theorem MapFn.store (h : MapFn w P kt ek ev b n f) {t e : TypeId} (K : Keyed P kt) (ht : P.underlying t = some (.map kt e)) (hinj : ∀ k k', ek k = ek k' → k = k') {k : κ} {l : Lit} (hkey : keyOf P kt (ek k) = some l) (v : ν) :
    ∃ o, ∀ w' : World, w'.heap[b]? = w.heap[b]? → (Instr.mapUpdate t (.map (some b)) (ek k) (ev v)).run P w' = .ok () (setBlock w' b o) ∧
      MapFn (setBlock w' b o) P kt ek ev b (if (f k).isSome then n else n + 1) (fput f k v) := by
  obtain ⟨es, clock, hb, hst, hn, h3, h4⟩ := h
  have hks : ∀ x ∈ es.toList, ∃ l, keyOf P kt x.key = some l := fun x hx => by
    obtain ⟨k', v', e1, _, _, hl⟩ := h3 x hx; rw [e1]; exact hl
  have hpw := ((stamped_iff _ _).1 hst).2.2
  rcases K.find w hkey es.toList hks with ⟨_, h2⟩ | ⟨j, e0, h1, h2, e3⟩
  · have hfk : f k = none := by
      cases hf : f k with
      | none => rfl
      | some v => obtain ⟨x, hx, e1, _⟩ := h4 k v hf; exact absurd e1 (h2 x hx)
    refine ⟨.map (es.push ⟨ek k, ev v, clock⟩) (clock + 1), fun w' hb' => ⟨?_, ?_⟩⟩
    · have hb2 := hb'.trans hb
      rcases K.find w' hkey es.toList hks with ⟨h1, _⟩ | ⟨j, e0, _, q2, q3⟩
      · simp [Instr.mapUpdate, run_underlying ht, MapKept.run_getObj_map hb2, K.check w' false hkey, h1, MapKept.run_setObj_map _ hb2, Result.andThen, setBlock]
      · exact absurd q3 (h2 e0 (List.mem_of_getElem? q2))
    · refine ⟨_, _, heap_setBlock _ _ _ (block_lt (hb'.trans hb)), stamped_push hst h2, by simp [hfk, hn], fun x hx => ?_, fun k' v' hf' => ?_⟩
      · simp only [Array.toList_push, List.mem_append, List.mem_singleton] at hx
        rcases hx with hx | rfl
        · obtain ⟨k', v', e1, e2, hf, hl⟩ := h3 x hx
          exact ⟨k', v', e1, e2, by rw [fput_other _ _ (fun e => h2 x hx (by rw [e1, e])), hf], hl⟩
        · exact ⟨k, v, rfl, rfl, fput_same _ _ _, l, hkey⟩
      · simp only [Array.toList_push, List.mem_append, List.mem_singleton]
        by_cases e : k' = k
        · subst e
          rw [fput_same] at hf'
          cases hf'
          exact ⟨_, Or.inr rfl, rfl, rfl⟩
        · rw [fput_other _ _ e] at hf'
          obtain ⟨x, hx, e1, e2⟩ := h4 k' v' hf'
          exact ⟨x, Or.inl hx, e1, e2⟩
  · have hm0 : e0 ∈ es.toList := List.mem_of_getElem? h2
    obtain ⟨k0, v0, q1, q2, hf0, _⟩ := h3 e0 hm0
    have : k0 = k := hinj _ _ (q1.symm.trans e3)
    subst this
    have hj : es[j]? = some e0 := by simpa using h2
    have hjl : j < es.toList.length := (List.getElem?_eq_some_iff.1 h2).1
    have hkeyf : ∀ e ∈ es.toList, es[j]? = some e → ({ e with key := ek k0, val := ev v } : MapEntry).key = e.key := fun e' _ he' => by rw [hj] at he'; cases he'; exact e3.symm
    have hlist : (es.modify j (fun e' => { e' with key := ek k0, val := ev v })).toList = es.toList.set j { e0 with key := ek k0, val := ev v } := by rw [Array.toList_modify, modify_eq_set _ _ _ _ h2]
    have who : ∀ x ∈ es.toList.set j { e0 with key := ek k0, val := ev v }, x = { e0 with key := ek k0, val := ev v } ∨ (x ∈ es.toList ∧ x.key ≠ ek k0) := by
      intro x hx
      obtain ⟨i, hi⟩ := List.mem_iff_getElem?.1 hx
      rw [List.getElem?_set] at hi
      by_cases hij : j = i
      · subst hij
        rw [if_pos rfl, if_pos hjl] at hi
        exact Or.inl (Option.some.inj hi).symm
      · rw [if_neg hij] at hi
        refine Or.inr ⟨List.mem_of_getElem? hi, fun e => hij (idx_unique hpw h2 hi (by rw [e3, e]))⟩
    refine ⟨.map (es.modify j (fun e' => { e' with key := ek k0, val := ev v })) clock, fun w' hb' => ⟨?_, ?_⟩⟩
    · have hb2 := hb'.trans hb
      rcases K.find w' hkey es.toList hks with ⟨_, g2⟩ | ⟨j', e0', g1, g2, g3⟩
      · exact absurd e3 (g2 e0 hm0)
      · have hjj : j' = j := idx_unique hpw g2 h2 (by rw [g3, e3])
        subst hjj
        simp [Instr.mapUpdate, run_underlying ht, MapKept.run_getObj_map hb2, K.check w' false hkey, g1, hj, e3, K.stays w' hkey, MapKept.run_setObj_map _ hb2, Result.andThen, setBlock]
    · refine ⟨_, _, heap_setBlock _ _ _ (block_lt (hb'.trans hb)), stamped_modify hst _ _ (fun e _ => rfl) hkeyf, by simp [hf0, hn], fun x hx => ?_, fun k' v' hf' => ?_⟩
      · rw [hlist] at hx
        rcases who x hx with rfl | ⟨hx, hne⟩
        · exact ⟨k0, v, rfl, rfl, fput_same _ _ _, l, hkey⟩
        · obtain ⟨k', v', e1, e2, hf, hl⟩ := h3 x hx
          exact ⟨k', v', e1, e2, by rw [fput_other _ _ (fun e => hne (by rw [e1, e])), hf], hl⟩
      · rw [hlist]
        by_cases e : k' = k0
        · subst e
          rw [fput_same] at hf'
          cases hf'
          exact ⟨_, List.mem_iff_getElem?.2 ⟨j, by rw [List.getElem?_set, if_pos rfl, if_pos hjl]⟩, rfl, rfl⟩
        · rw [fput_other _ _ e] at hf'
          obtain ⟨x, hx, e1, e2⟩ := h4 k' v' hf'
          obtain ⟨i, hi⟩ := List.mem_iff_getElem?.1 hx
          refine ⟨x, List.mem_iff_getElem?.2 ⟨i, ?_⟩, e1, e2⟩
          rw [List.getElem?_set, if_neg]
          · exact hi
          · intro hij
            subst hij
            rw [h2] at hi
            cases hi
            exact e (hinj _ _ (e1.symm.trans e3))

/-- 'delete(m, k)'. -/
theorem MapFn.drop (h : MapFn w P kt ek ev b n f) {t e : TypeId} (K : Keyed P kt) (ht : P.underlying t = some (.map kt e)) (hinj : ∀ k k', ek k = ek k' → k = k') {k : κ} {l : Lit} (hkey : keyOf P kt (ek k) = some l) (ty : TypeId) :
    ∃ o, ∀ w' : World, w'.heap[b]? = w.heap[b]? → (Builtin.delete_ #[t, kt] ty #[.map (some b), ek k]).run P w' = .ok (.tuple #[]) (setBlock w' b o) ∧
      MapFn (setBlock w' b o) P kt ek ev b (if (f k).isSome then n - 1 else n) (fdel f k) := by
  obtain ⟨es, clock, hb, hst, hn, h3, h4⟩ := h
  have hks : ∀ x ∈ es.toList, ∃ l, keyOf P kt x.key = some l := fun x hx => by
    obtain ⟨k', v', e1, _, _, hl⟩ := h3 x hx; rw [e1]; exact hl
  have hpw := ((stamped_iff _ _).1 hst).2.2
  rcases K.find w hkey es.toList hks with ⟨_, h2⟩ | ⟨j, e0, h1, h2, e3⟩
  · have hfk : f k = none := by
      cases hf : f k with
      | none => rfl
      | some v => obtain ⟨x, hx, e1, _⟩ := h4 k v hf; exact absurd e1 (h2 x hx)
    refine ⟨.map es clock, fun w' hb' => ⟨?_, ?_⟩⟩
    · have hb2 := hb'.trans hb
      rcases K.find w' hkey es.toList hks with ⟨h1, _⟩ | ⟨j, e0, _, q2, q3⟩
      · simp [Builtin.delete_, run_underlying ht, MapKept.run_getObj_map hb2, K.check w' _ hkey, h1, MapKept.run_setObj_map _ hb2, Result.andThen, setBlock]
      · exact absurd q3 (h2 e0 (List.mem_of_getElem? q2))
    · refine ⟨_, _, heap_setBlock _ _ _ (block_lt (hb'.trans hb)), hst, by simp [hfk, hn], fun x hx => ?_, fun k' v' hf' => ?_⟩
      · obtain ⟨k', v', e1, e2, hf, hl⟩ := h3 x hx
        exact ⟨k', v', e1, e2, by rw [fdel_other _ (fun e => h2 x hx (by rw [e1, e])), hf], hl⟩
      · by_cases e : k' = k
        · subst e; rw [fdel_same] at hf'; cases hf'
        · rw [fdel_other _ e] at hf'; exact h4 k' v' hf'
  · have hm0 : e0 ∈ es.toList := List.mem_of_getElem? h2
    obtain ⟨k0, v0, q1, q2, hf0, _⟩ := h3 e0 hm0
    have : k0 = k := hinj _ _ (q1.symm.trans e3)
    subst this
    have hjl : j < es.toList.length := (List.getElem?_eq_some_iff.1 h2).1
    have hjs : j < es.size := by simpa using hjl
    have hsub : (es.eraseIdxIfInBounds j).toList = es.toList.eraseIdx j := by
      unfold Array.eraseIdxIfInBounds
      rw [dif_pos hjs]
      simp
    refine ⟨.map (es.eraseIdxIfInBounds j) clock, fun w' hb' => ⟨?_, ?_⟩⟩
    · have hb2 := hb'.trans hb
      rcases K.find w' hkey es.toList hks with ⟨_, g2⟩ | ⟨j', e0', g1, g2, g3⟩
      · exact absurd e3 (g2 e0 hm0)
      · have hjj : j' = j := idx_unique hpw g2 h2 (by rw [g3, e3])
        subst hjj
        simp [Builtin.delete_, run_underlying ht, MapKept.run_getObj_map hb2, K.check w' _ hkey, g1, MapKept.run_setObj_map _ hb2, Result.andThen, setBlock]
    · have hlen : (es.eraseIdxIfInBounds j).size = es.size - 1 := by
        have := congrArg List.length hsub
        simp only [Array.length_toList, List.length_eraseIdx, hjs, if_true] at this
        exact this
      refine ⟨_, _, heap_setBlock _ _ _ (block_lt (hb'.trans hb)), stamped_erase hst j, by rw [hlen, hf0, hn]; rfl, fun x hx => ?_, fun k' v' hf' => ?_⟩
      · rw [hsub] at hx
        obtain ⟨i, hi⟩ := List.mem_iff_getElem?.1 hx
        have hx0 := (List.eraseIdx_sublist _ _).subset hx
        obtain ⟨k', v', e1, e2, hf, hl⟩ := h3 x hx0
        refine ⟨k', v', e1, e2, ?_, hl⟩
        rw [fdel_other _ (fun e => ?_), hf]
        rw [List.getElem?_eraseIdx] at hi
        by_cases hij : i < j
        · rw [if_pos hij] at hi
          have := idx_unique hpw hi h2 (by rw [e1, e3, e]); omega
        · rw [if_neg hij] at hi
          have := idx_unique hpw hi h2 (by rw [e1, e3, e]); omega
      · rw [hsub]
        by_cases e : k' = k0
        · subst e; rw [fdel_same] at hf'; cases hf'
        · rw [fdel_other _ e] at hf'
          obtain ⟨x, hx, e1, e2⟩ := h4 k' v' hf'
          obtain ⟨i, hi⟩ := List.mem_iff_getElem?.1 hx
          have hij : i ≠ j := fun hij => by
            subst hij; rw [h2] at hi; cases hi; exact e (hinj _ _ (e1.symm.trans e3))
          refine ⟨x, ?_, e1, e2⟩
          rcases Nat.lt_or_gt_of_ne hij with h' | h'
          · exact List.mem_iff_getElem?.2 ⟨i, by rw [List.getElem?_eraseIdx, if_pos h']; exact hi⟩
          · exact List.mem_iff_getElem?.2 ⟨i - 1, by rw [List.getElem?_eraseIdx, if_neg (by omega), show i - 1 + 1 = i by omega]; exact hi⟩

end

/-! ### rows of records -/

section
variable {α : Type}

theorem flat_get {β : Type} (f : α → List β) (k : Nat) (hk : ∀ x, (f x).length = k) : ∀ (l : List α) (i j : Nat) (h : i < l.length), j < k → (l.flatMap f)[i * k + j]? = (f l[i])[j]?
  | [], _, _, h, _ => by simp at h
  | x :: l, 0, j, _, hj => by
    simp only [List.flatMap_cons, Nat.zero_mul, Nat.zero_add, List.getElem_cons_zero]
    rw [List.getElem?_append_left (by rw [hk]; exact hj)]
  | x :: l, i + 1, j, h, hj => by
    simp only [List.flatMap_cons, List.getElem_cons_succ]
    rw [List.getElem?_append_right (by rw [hk, Nat.add_mul]; omega), hk, show (i + 1) * k + j - k = i * k + j by rw [Nat.add_mul]; omega]
    exact flat_get f k hk l i j (by simpa using h) hj

theorem flat_length {β : Type} (f : α → List β) (k : Nat) (hk : ∀ x, (f x).length = k) : ∀ l : List α, (l.flatMap f).length = l.length * k
  | [] => by simp
  | x :: l => by simp [List.flatMap_cons, hk, flat_length f k hk l, Nat.add_mul, Nat.add_comm]

/-- vs written over xs from o on. -/
def setMany {β : Type} : List β → Nat → List β → List β
  | xs, _, [] => xs
  | xs, o, v :: vs => setMany (xs.set o v) (o + 1) vs

theorem setMany_append_left {β : Type} : ∀ (vs : List β) (xs ys : List β) (o : Nat), o + vs.length ≤ xs.length → setMany (xs ++ ys) o vs = setMany xs o vs ++ ys
  | [], _, _, _, _ => rfl
  | v :: vs, xs, ys, o, h => by
    simp only [List.length_cons] at h
    simp only [setMany]
    rw [List.set_append_left _ _ (by omega), setMany_append_left vs _ ys (o + 1) (by simp; omega)]

theorem setMany_append_right {β : Type} : ∀ (vs : List β) (xs ys : List β) (o : Nat), setMany (xs ++ ys) (xs.length + o) vs = xs ++ setMany ys o vs
  | [], _, _, _ => rfl
  | v :: vs, xs, ys, o => by
    simp only [setMany]
    rw [List.set_append_right _ _ (by omega), show xs.length + o - xs.length = o by omega, show xs.length + o + 1 = xs.length + (o + 1) by omega, setMany_append_right vs xs (ys.set o v) (o + 1)]

theorem setMany_all {β : Type} : ∀ (vs xs : List β), vs.length = xs.length → setMany xs 0 vs = vs
  | [], [], _ => rfl
  | v :: vs, x :: xs, h => by
    have := setMany_append_right vs [v] xs 0
    simp only [setMany, List.set_cons_zero]
    simp only [List.length_singleton, List.singleton_append] at this
    rw [show (0 + 1 : Nat) = 1 + 0 from rfl, this, setMany_all vs xs (by simpa using h)]

theorem flat_set {β : Type} (f : α → List β) (k : Nat) (hk : ∀ x, (f x).length = k) : ∀ (l : List α) (i : Nat) (x : α), i < l.length → (l.set i x).flatMap f = setMany (l.flatMap f) (i * k) (f x)
  | [], _, _, h => by simp at h
  | y :: l, 0, x, _ => by
    simp only [List.set_cons_zero, List.flatMap_cons, Nat.zero_mul]
    rw [setMany_append_left _ _ _ _ (by rw [hk, hk]; omega), setMany_all _ _ (by rw [hk, hk])]
  | y :: l, i + 1, x, h => by
    simp only [List.set_cons_succ, List.flatMap_cons]
    rw [show (i + 1) * k = (f y).length + i * k by rw [hk, Nat.add_mul]; omega, setMany_append_right, flat_set f k hk l i x (by simpa using h)]

theorem set_same {β : Type} {xs : List β} {j : Nat} {v : β} (h : xs[j]? = some v) : xs.set j v = xs := by
  apply List.ext_getElem?
  intro k
  rw [List.getElem?_set]
  by_cases e : j = k
  · subst e
    rw [if_pos rfl, if_pos (List.getElem?_eq_some_iff.1 h).1, h]
  · rw [if_neg e]

theorem ownsRow_setCells {base : Nat} {e : TypeId} {size g n cap : Nat} : ∀ (vs xs : List Value) (o : Nat) (w : World) (_ : w.ownsRow base e size (.slice (some ⟨g, 0, none⟩) n cap) n xs),
    (w.setCells g o vs).ownsRow base e size (.slice (some ⟨g, 0, none⟩) n cap) n (setMany xs o vs)
  | [], _, _, _, h => h
  | v :: vs, xs, o, _, h => ownsRow_setCells vs (xs.set o v) (o + 1) _ (h.stored o v).1

/-- The slice v of w holds the records l (nil, if there are none, or at the head of a block of its own). -/
def RowV (w : World) (e : TypeId) (k : Nat) (enc : α → List Value) (v : Value) (l : List α) : Prop := w.ownsRow 0 e k v l.length (l.flatMap enc)

/-- .. at the head of block g. -/
abbrev RowAt (w : World) (e : TypeId) (k : Nat) (enc : α → List Value) (g cap : Nat) (l : List α) : Prop := RowV w e k enc (.slice (some ⟨g, 0, none⟩) l.length cap) l

variable {w : World} {e : TypeId} {k : Nat} {enc : α → List Value} {g cap : Nat} {l : List α}

theorem RowAt.block (h : RowAt w e k enc g cap l) : ∃ cur, w.heap[g]? = some (.cells cur e (0, 0)) ∧ l.length ≤ cap ∧ cap ≤ maxLen ∧ cur.size = cap * k ∧ cur.toList.take (l.length * k) = l.flatMap enc := by
  rcases h.2 with ⟨e, _⟩ | ⟨g', cap', cur, e, _, r2, r3⟩
  · cases e
  · cases e; exact ⟨cur, r2, r3⟩

theorem RowAt.lt (h : RowAt w e k enc g cap l) : g < w.heap.size := by obtain ⟨_, h, _⟩ := h.block; exact block_lt h

theorem RowAt.of_block {cur : Array Value} (h1 : w.heap[g]? = some (.cells cur e (0, 0))) (h2 : l.length ≤ cap) (h3 : cap ≤ maxLen) (h4 : cur.size = cap * k) (h5 : cur.toList.take (l.length * k) = l.flatMap enc) (hk : ∀ x, (enc x).length = k) : RowAt w e k enc g cap l :=
  ⟨flat_length enc k hk l, .inr ⟨g, cap, cur, rfl, Nat.zero_le _, h1, h2, h3, h4, h5⟩⟩

theorem RowV.at_block {v : Value} (h : RowV w e k enc v l) {w' : World} (hb : ∀ b, v.ownBlock = some b → w'.heap[b]? = w.heap[b]?) : RowV w' e k enc v l := by
  obtain ⟨e1, e2⟩ := h
  refine ⟨e1, ?_⟩
  rcases e2 with e2 | ⟨g', cap', cur, e, r1, r2, r3⟩
  · exact .inl e2
  · exact .inr ⟨g', cap', cur, e, r1, (hb g' (by rw [e]; rfl)).trans r2, r3⟩

theorem RowAt.at_block (h : RowAt w e k enc g cap l) {w' : World} (hb : w'.heap[g]? = w.heap[g]?) : RowAt w' e k enc g cap l :=
  RowV.at_block h (fun b hb' => by cases hb'; exact hb)

theorem RowV.nil (w : World) (e : TypeId) (k : Nat) (enc : α → List Value) : RowV w e k enc (.slice none 0 0) ([] : List α) := ⟨by simp, .inl ⟨rfl, rfl⟩⟩

theorem RowV.form {v : Value} (h : RowV w e k enc v l) : (v = .slice none 0 0 ∧ l = []) ∨ ∃ g cap, v = .slice (some ⟨g, 0, none⟩) l.length cap := by
  rcases h.2 with ⟨h1, h2⟩ | ⟨g, cap, _, h1, _⟩
  · exact .inl ⟨h1, List.length_eq_zero_iff.1 h2⟩
  · exact .inr ⟨g, cap, h1⟩

theorem RowAt.cell (h : RowAt w e k enc g cap l) (hk : ∀ x, (enc x).length = k) {i : Nat} (hi : i < l.length) {j : Nat} (hj : j < k) : w.cell? ⟨g, i * k + j, none⟩ = (enc l[i])[j]? := by
  have hlt : i * k + j < l.length * k := by
    have := Nat.mul_le_mul_right k (show i + 1 ≤ l.length from hi)
    rw [Nat.add_mul] at this; omega
  rw [World.ownsRow.cellAt h _ hlt, flat_get enc k hk l i j hi hj]

theorem RowAt.frozen (h : RowAt w e k enc g cap l) (j : Nat) : w.frozen? ⟨g, j, none⟩ = false := World.ownsRow.frozenAt h j

theorem RowAt.set (h : RowAt w e k enc g cap l) (hk : ∀ x, (enc x).length = k) {i : Nat} (hi : i < l.length) (x : α) : RowAt (w.setCells g (i * k) (enc x)) e k enc g cap (l.set i x) := by
  unfold RowAt RowV
  rw [List.length_set, flat_set enc k hk l i x hi]
  exact ownsRow_setCells _ _ _ _ h

theorem RowAt.take (h : RowAt w e k enc g cap l) (hk : ∀ x, (enc x).length = k) {n : Nat} (hn : n ≤ l.length) : RowAt w e k enc g cap (l.take n) := by
  obtain ⟨cur, r1, r2, r3, r4, r5⟩ := h.block
  have hl : (l.take n).length = n := by simp; omega
  refine RowAt.of_block r1 (by omega) r3 r4 ?_ hk
  rw [hl]
  have e1 : (cur.toList.take (l.length * k)).take (n * k) = cur.toList.take (n * k) := by
    rw [List.take_take, Nat.min_eq_left (Nat.mul_le_mul_right k hn)]
  rw [← e1, r5]
  have e2 : l.flatMap enc = (l.take n).flatMap enc ++ (l.drop n).flatMap enc := by rw [← List.flatMap_append, List.take_append_drop]
  rw [e2, List.take_left' (by rw [flat_length enc k hk, hl])]
end

/-! ### cells behind a changed block -/

theorem cell?_setBlock_other (w : World) (b : Nat) (o : Obj) (a : Addr) (h : b ≠ a.block) : (setBlock w b o).cell? a = w.cell? a :=
  World.cell?_of_block (w := w) (by simp only [setBlock, Array.getElem?_setIfInBounds]; rw [if_neg h])
theorem frozen?_setBlock_other (w : World) (b : Nat) (o : Obj) (a : Addr) (h : b ≠ a.block) : (setBlock w b o).frozen? a = w.frozen? a :=
  World.frozen?_of_block (w := w) (by simp only [setBlock, Array.getElem?_setIfInBounds]; rw [if_neg h])
theorem heap_setBlock_ne (w : World) (b : Nat) (o : Obj) (k : Nat) (h : k ≠ b) : (setBlock w b o).heap[k]? = w.heap[k]? := by
  simp only [setBlock, Array.getElem?_setIfInBounds]; rw [if_neg (fun e => h e.symm)]
@[simp] theorem size_setBlock (w : World) (b : Nat) (o : Obj) : (setBlock w b o).heap.size = w.heap.size := by simp [setBlock]

/-! ### draws and new blocks alone -/

open Go.Sort (grow grow_grow size_grow alloc_eq_grow heap_grow_old grow_empty)

/-- w' is w, some draws and some new blocks later. -/
def Gr (w w' : World) : Prop := ∃ n os, w' = grow (w.drewN n) os

theorem Gr.refl (w : World) : Gr w w := ⟨0, #[], by rw [grow_empty]; rfl⟩
theorem Gr.alloc {w w' : World} (h : Gr w w') (o : Obj) : Gr w (w'.alloc o) := by
  obtain ⟨n, os, rfl⟩ := h
  exact ⟨n, os ++ #[o], by rw [alloc_eq_grow, grow_grow]⟩
theorem Gr.drew {w w' : World} (h : Gr w w') : Gr w w'.drew := by
  obtain ⟨n, os, rfl⟩ := h
  exact ⟨n + 1, os, rfl⟩
theorem Gr.drewN {w w' : World} (h : Gr w w') (m : Nat) : Gr w (w'.drewN m) := by
  obtain ⟨n, os, rfl⟩ := h
  exact ⟨n + m, os, by rw [← World.drewN_drewN]; rfl⟩
theorem Gr.trans {w w' w'' : World} (h : Gr w w') (k : Gr w' w'') : Gr w w'' := by
  obtain ⟨n, os, rfl⟩ := h
  obtain ⟨m, os', rfl⟩ := k
  refine ⟨n + m, os ++ os', ?_⟩
  show grow (grow ((w.drewN n).drewN m) os) os' = _
  rw [grow_grow, World.drewN_drewN]
theorem Gr.keeps {w w' : World} (h : Gr w w') : Keeps NoBlk w w' := by
  obtain ⟨n, os, rfl⟩ := h
  exact ⟨rfl, rfl, rfl, by simp, fun k hk _ => heap_grow_old _ _ hk⟩
theorem Keeps.of_none {S : Nat → Prop} {w w' : World} (h : Keeps NoBlk w w') : Keeps S w w' := h.mono (fun _ _ x => x.elim)
theorem Gr.keep {S : Nat → Prop} {w w' : World} (h : Gr w w') : Keeps S w w' := h.keeps.of_none

/-! ### slices of numbers that came in -/

/-- v is a slice whose elements are the numbers ks. -/
def Ints (w : World) (v : Value) (ks : List Int) : Prop :=
  ∃ a cap, v = .slice a ks.length cap ∧ (ks ≠ [] → ∃ b off, a = some ⟨b, off, none⟩ ∧ b < w.heap.size ∧ ∀ j, j < ks.length → w.cell? ⟨b, off + j, none⟩ = some (.int .i64 (ks.getD j 0)))

theorem Ints.keep {w w' : World} {v : Value} {ks : List Int} (h : Ints w v ks) {S : Nat → Prop} (hk : Keeps S w w') (hS : ∀ k, k < w.heap.size → ¬ S k) : Ints w' v ks := by
  obtain ⟨a, cap, e, h⟩ := h
  refine ⟨a, cap, e, fun hne => ?_⟩
  obtain ⟨b, off, e2, hb, hc⟩ := h hne
  exact ⟨b, off, e2, Nat.lt_of_lt_of_le hb hk.size, fun j hj => (hk.cell (p := ⟨b, off + j, none⟩) hb (hS b hb)).trans (hc j hj)⟩

end Go.Proofs.Ytofdcmbjcpfabaa
