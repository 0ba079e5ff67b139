/- QueueOnce: the plain law. -/
import Derived.Test.YtofdcmbjcpfabaaLaw22o
import Derived.Test.YtofdcmbjcpfabaaRef03e
namespace Go.Proofs.Ytofdcmbjcpfabaa

/-- What the law keeps of a queue: kf the attempts of each key (1000 more at its end), hs the tokens that are held. -/
structure OnceQ (q : QS) (kf : ByteArray → Option Int) (hs : List (Int × ByteArray)) (i : Nat) : Prop where
  nx : q.next ≤ i + 1
  n0 : 0 < q.next
  held : ∀ t k, (t, k) ∈ hs ↔ ∃ x, q.outs t = some x ∧ x.t.key = k
  rise : hs.Pairwise (fun a b => a.1 < b.1)
  pos : ∀ h ∈ hs, 0 < h.1 ∧ h.1 < q.next
  nd : (q.waits.map Task.key ++ hs.map Prod.snd).Nodup
  th : ∀ k, kf k = none → q.there k = none
  wk : ∀ t ∈ q.waits, kf t.key = some t.att ∧ t.att ≤ i
  ok : ∀ t x, q.outs t = some x → x.tok = t ∧ kf x.t.key = some x.t.att ∧ x.t.att ≤ i
  lv : ∀ k n, kf k = some n → 0 ≤ n ∧ n ≤ 1000 + i ∧ (n < 1000 → k ∈ q.waits.map Task.key ++ hs.map Prod.snd)
  big : q.waits.length ≤ i
  ksz : ∀ k, kf k ≠ none → k.size ≤ 200

section
variable {q : QS} {kf : ByteArray → Option Int} {hs : List (Int × ByteArray)} {i : Nat}

theorem OnceQ.start (most grace : Int) : OnceQ (QS.new most grace) (fun _ => none) [] 0 := by
  refine ⟨by show (1 : Int) ≤ _; simp, by show (0 : Int) < 1; omega, fun t k => ⟨(fun h => by cases h), (fun ⟨x, h, _⟩ => by cases h)⟩, List.Pairwise.nil, (fun h hh => by cases hh), List.nodup_nil, fun k _ => rfl, (fun t ht => by cases ht), (fun t x h => by cases h), (fun k n h => by cases h), Nat.zero_le _, fun k h => absurd rfl h⟩

theorem OnceQ.up (h : OnceQ q kf hs i) : OnceQ q kf hs (i + 1) := by
  refine ⟨by have := h.nx; omega, h.n0, h.held, h.rise, h.pos, h.nd, h.th, fun t ht => ⟨(h.wk t ht).1, by have := (h.wk t ht).2; omega⟩, fun t x hx => ?_, fun k n hk => ?_, by have := h.big; omega, h.ksz⟩
  · obtain ⟨a, b, c⟩ := h.ok t x hx
    exact ⟨a, b, by omega⟩
  · obtain ⟨a, b, c⟩ := h.lv k n hk
    exact ⟨a, by omega, c⟩

theorem OnceQ.qpos (h : OnceQ q kf hs i) : ∀ k x, q.outs k = some x → 0 < k ∧ k < q.next := fun k x hx => h.pos (k, x.t.key) ((h.held k x.t.key).2 ⟨x, hx, rfl⟩)

theorem OnceQ.put (h : OnceQ q kf hs i) {key who : ByteArray} {time : Int} (hk : kf key = none) (hsz : key.size ≤ 200) : OnceQ (q.wait ⟨key, who, time, 0⟩) (fput kf key 0) hs (i + 1) := by
  have hnw : key ∉ q.waits.map Task.key ++ hs.map Prod.snd := fun hm => by
    rcases List.mem_append.1 hm with hm | hm
    · obtain ⟨t, ht, rfl⟩ := List.mem_map.1 hm
      have := (h.wk t ht).1; rw [hk] at this; cases this
    · obtain ⟨⟨t, k⟩, ht, rfl⟩ := List.mem_map.1 hm
      obtain ⟨x, hx, e⟩ := (h.held t k).1 ht
      have := (h.ok t x hx).2.1
      rw [e] at this
      rw [show (t, k).2 = k from rfl, this] at hk; cases hk
  have hne : ∀ k n, kf k = some n → k ≠ key := fun k n h1 e => by subst e; rw [hk] at h1; cases h1
  refine ⟨by have := h.nx; show q.next ≤ _; omega, h.n0, h.held, h.rise, h.pos, ?_, fun k hn => ?_, fun t ht => ?_, fun t x hx => ?_, fun k n hkn => ?_, ?_, fun k hkn => ?_⟩
  · show ((q.waits ++ [_]).map Task.key ++ hs.map Prod.snd).Nodup
    rw [List.map_append, List.append_assoc]
    have hp : (q.waits.map Task.key ++ (List.map Task.key [(⟨key, who, time, 0⟩ : Task)] ++ hs.map Prod.snd)).Perm (key :: (q.waits.map Task.key ++ hs.map Prod.snd)) := List.perm_middle
    rw [hp.nodup_iff, List.nodup_cons]
    exact ⟨hnw, h.nd⟩
  · show fput q.there key 0 k = none
    by_cases e : k = key
    · subst e; rw [fput_same] at hn; cases hn
    · rw [fput_other _ _ e] at hn ⊢; exact h.th k hn
  · rcases List.mem_append.1 (show t ∈ q.waits ++ [_] from ht) with ht | ht
    · obtain ⟨a, b⟩ := h.wk t ht
      exact ⟨by rw [fput_other _ _ (hne _ _ a)]; exact a, by omega⟩
    · rw [List.mem_singleton.1 ht]
      exact ⟨fput_same _ _ _, by show (0 : Int) ≤ _; omega⟩
  · obtain ⟨a, b, c⟩ := h.ok t x hx
    exact ⟨a, by rw [fput_other _ _ (hne _ _ b)]; exact b, by omega⟩
  · by_cases e : k = key
    · subst e
      rw [fput_same] at hkn
      cases hkn
      exact ⟨by omega, by omega, fun _ => List.mem_append_left _ (by show k ∈ (q.waits ++ [_]).map Task.key; simp)⟩
    · rw [fput_other _ _ e] at hkn
      obtain ⟨a, b, c⟩ := h.lv k n hkn
      refine ⟨a, by omega, fun hn => ?_⟩
      have := c hn
      show k ∈ (q.waits ++ [_]).map Task.key ++ hs.map Prod.snd
      simp only [List.mem_append, List.map_append] at this ⊢
      rcases this with h | h
      · exact .inl (.inl h)
      · exact .inr h
  · show (q.waits ++ [_]).length ≤ _
    have := h.big; simp; omega
  · by_cases e : k = key
    · subst e; exact hsz
    · rw [fput_other _ _ e] at hkn; exact h.ksz k hkn

theorem OnceQ.poll (h : OnceQ q kf hs i) {j : Nat} {t : Task} (hj : q.waits[j]? = some t) (who : ByteArray) (till : Int) :
    OnceQ (q.hand j t who till) (fput kf t.key (t.att + 1)) (hs ++ [(q.next, t.key)]) (i + 1) := by
  have htm := List.mem_of_getElem? hj
  have hjl := (List.getElem?_eq_some_iff.1 hj).1
  have hp : q.waits.Perm (t :: q.waits.eraseIdx j) := by
    have := perm_at q.waits j hjl
    rwa [(List.getElem?_eq_some_iff.1 hj).2] at this
  obtain ⟨kt, at1⟩ := h.wk t htm
  have hnd : (t.key :: ((q.waits.eraseIdx j).map Task.key ++ hs.map Prod.snd)).Nodup := by
    have := (hp.map Task.key).append_right (hs.map Prod.snd)
    exact this.nodup_iff.1 h.nd
  have hnin := (List.nodup_cons.1 hnd).1
  have hon : ∀ tok x, q.outs tok = some x → x.t.key ≠ t.key := fun tok x hx e => hnin (List.mem_append_right _ (List.mem_map.2 ⟨(tok, x.t.key), (h.held _ _).2 ⟨x, hx, rfl⟩, e⟩))
  have hn0 := h.lv _ _ kt
  have hlt : ∀ tok x, q.outs tok = some x → tok ≠ q.next := fun tok x hx e => by have := h.qpos tok x hx; omega
  refine ⟨by have := h.nx; show q.next + 1 ≤ _; omega, by have := h.n0; show 0 < q.next + 1; omega, fun tok k => ?_, ?_, fun z hz => ?_, ?_, fun k hk => ?_, fun t' ht' => ?_, fun tok x hx => ?_, fun k n hkn => ?_, ?_, fun k hkn => ?_⟩
  · show _ ↔ ∃ x, fput q.outs q.next _ tok = some x ∧ x.t.key = k
    rw [List.mem_append, List.mem_singleton]
    by_cases e : tok = q.next
    · subst e
      rw [fput_same]
      constructor
      · rintro (h1 | h1)
        · have := (h.pos _ h1).2; simp only at this; omega
        · cases h1; exact ⟨_, rfl, rfl⟩
      · rintro ⟨x, hx, rfl⟩
        cases hx
        exact .inr rfl
    · rw [fput_other _ _ e, h.held]
      constructor
      · rintro (h1 | h1)
        · exact h1
        · cases h1; exact absurd rfl e
      · exact .inl
  · rw [List.pairwise_append]
    refine ⟨h.rise, by simp, fun a ha b hb => ?_⟩
    rw [List.mem_singleton.1 hb]
    exact (h.pos a ha).2
  · rcases List.mem_append.1 hz with hz | hz
    · have := h.pos z hz; exact ⟨this.1, by show z.1 < q.next + 1; omega⟩
    · rw [List.mem_singleton.1 hz]; exact ⟨h.n0, by show q.next < q.next + 1; omega⟩
  · show ((q.waits.eraseIdx j).map Task.key ++ (hs ++ [(q.next, t.key)]).map Prod.snd).Nodup
    rw [List.map_append, ← List.append_assoc]
    have hp2 : ((q.waits.eraseIdx j).map Task.key ++ hs.map Prod.snd ++ List.map Prod.snd [(q.next, t.key)]).Perm (t.key :: ((q.waits.eraseIdx j).map Task.key ++ hs.map Prod.snd)) := List.perm_append_singleton _ _
    exact hp2.nodup_iff.2 hnd
  · show fput q.there t.key q.next k = none
    by_cases e : k = t.key
    · subst e; rw [fput_same] at hk; cases hk
    · rw [fput_other _ _ e] at hk ⊢; exact h.th k hk
  · have ht0 : t' ∈ q.waits.eraseIdx j := ht'
    have hne : t'.key ≠ t.key := fun e => hnin (List.mem_append_left _ (List.mem_map.2 ⟨t', ht0, e⟩))
    obtain ⟨a, b⟩ := h.wk t' (List.mem_of_mem_eraseIdx ht0)
    exact ⟨by rw [fput_other _ _ hne]; exact a, by omega⟩
  · have hx' : fput q.outs q.next _ tok = some x := hx
    by_cases e : tok = q.next
    · subst e
      rw [fput_same] at hx'
      cases hx'
      exact ⟨rfl, fput_same _ _ _, by show t.att + 1 ≤ _; omega⟩
    · rw [fput_other _ _ e] at hx'
      obtain ⟨a, b, c⟩ := h.ok tok x hx'
      exact ⟨a, by rw [fput_other _ _ (hon tok x hx')]; exact b, by omega⟩
  · have hmem : ∀ k, k ∈ q.waits.map Task.key ++ hs.map Prod.snd → k ∈ (q.waits.eraseIdx j).map Task.key ++ (hs ++ [(q.next, t.key)]).map Prod.snd := fun k hk => by
      rcases List.mem_append.1 hk with hk | hk
      · have := (hp.map Task.key).mem_iff.1 hk
        rcases List.mem_cons.1 this with e | e
        · subst e; simp
        · exact List.mem_append_left _ e
      · exact List.mem_append_right _ (by rw [List.map_append]; exact List.mem_append_left _ hk)
    by_cases e : k = t.key
    · subst e
      rw [fput_same] at hkn
      cases hkn
      exact ⟨by omega, by omega, fun _ => hmem _ (List.mem_append_left _ (List.mem_map.2 ⟨t, htm, rfl⟩))⟩
    · rw [fput_other _ _ e] at hkn
      obtain ⟨a, b, c⟩ := h.lv k n hkn
      exact ⟨a, by omega, fun hn => hmem k (c hn)⟩
  · show (q.waits.eraseIdx j).length ≤ _
    have := h.big
    have := (List.eraseIdx_sublist q.waits j).length_le
    omega
  · by_cases e : k = t.key
    · subst e; exact h.ksz _ (by rw [kt]; exact fun x => by cases x)
    · rw [fput_other _ _ e] at hkn; exact h.ksz k hkn

/-- The place of a token among those held. -/
def PlaceOf (hs : List (Int × ByteArray)) (tok : Int) (a : Int) : Prop :=
  (a = -1 ∧ ∀ h ∈ hs, h.1 ≠ tok) ∨ ∃ (j : Nat) (hj : j < hs.length), a = j ∧ hs[j].1 = tok

theorem OnceQ.place (h : OnceQ q kf hs i) {tok a : Int} (hp : PlaceOf hs tok a) : (a = -1 ∧ q.outs tok = none) ∨ ∃ (j : Nat) (hj : j < hs.length) (x : QOut), a = j ∧ q.outs tok = some x ∧ hs[j] = (tok, x.t.key) ∧ kf x.t.key = some x.t.att := by
  rcases hp with ⟨rfl, hn⟩ | ⟨j, hj, rfl, e⟩
  · left
    refine ⟨rfl, ?_⟩
    cases ho : q.outs tok with
    | none => rfl
    | some x => exact absurd rfl (hn (tok, x.t.key) ((h.held _ _).2 ⟨x, ho, rfl⟩))
  · right
    obtain ⟨x, hx, hk⟩ := (h.held hs[j].1 hs[j].2).1 (List.getElem_mem hj)
    rw [e] at hx
    exact ⟨j, hj, x, rfl, hx, by rw [hk, ← e], (h.ok tok x hx).2.1⟩

theorem OnceQ.erased (h : OnceQ q kf hs i) {j : Nat} (hj : j < hs.length) : ∀ tok k, (tok, k) ∈ hs.eraseIdx j ↔ (tok, k) ∈ hs ∧ tok ≠ hs[j].1 := by
  intro tok k
  have hp := perm_at hs j hj
  have hnd : (hs.map Prod.fst).Nodup := by
    refine List.Pairwise.map _ (fun a b hab => ?_) h.rise
    exact fun e => by have e2 : a.1 = b.1 := e; omega
  have hnd2 := ((hp.map Prod.fst).nodup_iff).1 hnd
  rw [List.map_cons, List.nodup_cons] at hnd2
  constructor
  · intro hm
    refine ⟨List.mem_of_mem_eraseIdx hm, fun e => hnd2.1 (List.mem_map.2 ⟨(tok, k), hm, e⟩)⟩
  · rintro ⟨hm, hne⟩
    rcases List.mem_cons.1 (hp.mem_iff.1 hm) with e | e
    · exact absurd (congrArg Prod.fst e) hne
    · exact e

theorem OnceQ.done (h : OnceQ q kf hs i) {j : Nat} (hj : j < hs.length) {tok : Int} {x : QOut} (hx : q.outs tok = some x) (he : hs[j] = (tok, x.t.key)) :
    OnceQ (q.done tok x) (fput kf x.t.key (x.t.att + 1000)) (hs.eraseIdx j) (i + 1) := by
  have her := h.erased hj
  have hp := perm_at hs j hj
  obtain ⟨ht, hkx, hat⟩ := h.ok tok x hx
  have hnd : (x.t.key :: (q.waits.map Task.key ++ (hs.eraseIdx j).map Prod.snd)).Nodup := by
    have h1 : (q.waits.map Task.key ++ hs.map Prod.snd).Perm (q.waits.map Task.key ++ (x.t.key :: (hs.eraseIdx j).map Prod.snd)) := by
      refine List.Perm.append_left _ ?_
      have := hp.map Prod.snd
      rw [List.map_cons, he] at this
      exact this
    exact (h1.trans List.perm_middle).nodup_iff.1 h.nd
  have hnin := (List.nodup_cons.1 hnd).1
  have hn0 := h.lv _ _ hkx
  have hmem : ∀ k, k ≠ x.t.key → k ∈ q.waits.map Task.key ++ hs.map Prod.snd → k ∈ q.waits.map Task.key ++ (hs.eraseIdx j).map Prod.snd := fun k hne hk => by
    rcases List.mem_append.1 hk with hk | hk
    · exact List.mem_append_left _ hk
    · have := (hp.map Prod.snd).mem_iff.1 hk
      rw [List.map_cons, he] at this
      rcases List.mem_cons.1 this with e | e
      · exact absurd e hne
      · exact List.mem_append_right _ e
  have hfst : hs[j].1 = tok := by rw [he]
  have houts : ∀ t y, fdel q.outs tok t = some y → t ≠ tok ∧ q.outs t = some y := fun t y hy => by
    by_cases e : t = tok
    · subst e; rw [fdel_same] at hy; cases hy
    · exact ⟨e, by rwa [fdel_other _ e] at hy⟩
  refine ⟨by have := h.nx; show q.next ≤ _; omega, h.n0, fun t k => ?_, h.rise.sublist (List.eraseIdx_sublist _ _), fun z hz => h.pos z (List.mem_of_mem_eraseIdx hz), (List.nodup_cons.1 hnd).2, fun k hk => ?_, fun t ht' => ?_, fun t y hy => ?_, fun k n hkn => ?_, by show q.waits.length ≤ _; have := h.big; omega, fun k hkn => ?_⟩
  · rw [her, h.held, hfst]
    constructor
    · rintro ⟨⟨y, h1, h2⟩, hne⟩
      exact ⟨y, (fdel_other _ hne).trans h1, h2⟩
    · rintro ⟨y, h1, h2⟩
      obtain ⟨hne, h3⟩ := houts t y h1
      exact ⟨⟨y, h3, h2⟩, hne⟩
  · show fdel q.there x.t.key k = none
    by_cases e : k = x.t.key
    · subst e; exact fdel_same _ _
    · rw [fput_other _ _ e] at hk
      rw [fdel_other _ e]; exact h.th k hk
  · have ht0 : t ∈ q.waits := ht'
    obtain ⟨a, b⟩ := h.wk t ht0
    exact ⟨by rw [fput_other _ _ (fun e => hnin (List.mem_append_left _ (List.mem_map.2 ⟨t, ht0, e⟩)))]; exact a, by omega⟩
  · obtain ⟨hne, h3⟩ := houts t y hy
    obtain ⟨a, b, c⟩ := h.ok t y h3
    exact ⟨a, by rw [fput_other _ _ (fun e => hnin (List.mem_append_right _ (List.mem_map.2 ⟨(t, y.t.key), (her _ _).2 ⟨(h.held _ _).2 ⟨y, h3, rfl⟩, by rw [hfst]; exact hne⟩, e⟩)))]; exact b, by omega⟩
  · by_cases e : k = x.t.key
    · subst e
      rw [fput_same] at hkn
      cases hkn
      exact ⟨by omega, by omega, fun h => by omega⟩
    · rw [fput_other _ _ e] at hkn
      obtain ⟨a, b, c⟩ := h.lv k n hkn
      exact ⟨a, by omega, fun hn => hmem k e (c hn)⟩
  · by_cases e : k = x.t.key
    · subst e; exact h.ksz _ (by rw [hkx]; exact fun x => by cases x)
    · rw [fput_other _ _ e] at hkn; exact h.ksz k hkn

theorem OnceQ.back (h : OnceQ q kf hs i) {j : Nat} (hj : j < hs.length) {tok : Int} {x : QOut} (hx : q.outs tok = some x) (he : hs[j] = (tok, x.t.key)) (ready : Int) :
    OnceQ (q.back tok x ready) kf (hs.eraseIdx j) (i + 1) := by
  have her := h.erased hj
  have hp := perm_at hs j hj
  obtain ⟨ht, hkx, hat⟩ := h.ok tok x hx
  have hfst : hs[j].1 = tok := by rw [he]
  have houts : ∀ t y, fdel q.outs tok t = some y → t ≠ tok ∧ q.outs t = some y := fun t y hy => by
    by_cases e : t = tok
    · subst e; rw [fdel_same] at hy; cases hy
    · exact ⟨e, by rwa [fdel_other _ e] at hy⟩
  have hperm : (q.waits.map Task.key ++ hs.map Prod.snd).Perm ((q.waits ++ [(⟨x.t.key, ⟨#[]⟩, ready, x.t.att⟩ : Task)]).map Task.key ++ (hs.eraseIdx j).map Prod.snd) := by
    have := hp.map Prod.snd
    rw [List.map_cons, he] at this
    refine (List.Perm.append_left _ this).trans ?_
    rw [List.map_append, List.append_assoc]
    exact List.Perm.refl _
  refine ⟨by have := h.nx; show q.next ≤ _; omega, h.n0, fun t k => ?_, h.rise.sublist (List.eraseIdx_sublist _ _), fun z hz => h.pos z (List.mem_of_mem_eraseIdx hz), hperm.nodup_iff.1 h.nd, fun k hk => ?_, fun t ht' => ?_, fun t y hy => ?_, fun k n hkn => ?_, ?_, h.ksz⟩
  · show _ ↔ ∃ y, fdel q.outs tok t = some y ∧ y.t.key = k
    rw [her, h.held, hfst]
    constructor
    · rintro ⟨⟨y, h1, h2⟩, hne⟩
      exact ⟨y, (fdel_other _ hne).trans h1, h2⟩
    · rintro ⟨y, h1, h2⟩
      obtain ⟨hne, h3⟩ := houts t y h1
      exact ⟨⟨y, h3, h2⟩, hne⟩
  · show fput q.there x.t.key 0 k = none
    rw [fput_other _ _ (fun e => by subst e; rw [hkx] at hk; cases hk)]
    exact h.th k hk
  · rcases List.mem_append.1 (show t ∈ q.waits ++ [_] from ht') with ht0 | ht0
    · obtain ⟨a, b⟩ := h.wk t ht0
      exact ⟨a, by omega⟩
    · rw [List.mem_singleton.1 ht0]
      exact ⟨hkx, by show x.t.att ≤ _; omega⟩
  · obtain ⟨hne, h3⟩ := houts t y hy
    obtain ⟨a, b, c⟩ := h.ok t y h3
    exact ⟨a, b, by omega⟩
  · obtain ⟨a, b, c⟩ := h.lv k n hkn
    exact ⟨a, by omega, fun hn => hperm.mem_iff.1 (c hn)⟩
  · show (q.waits ++ [_]).length ≤ _
    have := h.big; simp; omega

/-- How many keys are not gone. -/
theorem OnceQ.left (h : OnceQ q kf hs i) (hi : i < 900) {ps : List (ByteArray × Int)} (hnd : (ps.map Prod.fst).Nodup) (hall : ∀ k n, kf k = some n ↔ (k, n) ∈ ps) :
    (ps.filter (fun p => decide (p.2 < 1000))).length = q.waits.length + hs.length := by
  have h1 : ((ps.filter (fun p => decide (p.2 < 1000))).map Prod.fst).Nodup := (List.filter_sublist.map _).nodup hnd
  have hp : ((ps.filter (fun p => decide (p.2 < 1000))).map Prod.fst).Perm (q.waits.map Task.key ++ hs.map Prod.snd) := by
    refine (List.perm_ext_iff_of_nodup h1 h.nd).2 fun k => ?_
    rw [List.mem_map]
    constructor
    · rintro ⟨⟨k', n⟩, hm, rfl⟩
      rw [List.mem_filter] at hm
      exact (h.lv k' n ((hall _ _).2 hm.1)).2.2 (of_decide_eq_true hm.2)
    · intro hk
      have : ∃ n, kf k = some n ∧ n < 1000 := by
        rcases List.mem_append.1 hk with hk | hk
        · obtain ⟨t, ht, rfl⟩ := List.mem_map.1 hk
          obtain ⟨a, b⟩ := h.wk t ht
          exact ⟨_, a, by omega⟩
        · obtain ⟨⟨t, k'⟩, ht, rfl⟩ := List.mem_map.1 hk
          obtain ⟨x, hx, rfl⟩ := (h.held t k').1 ht
          obtain ⟨_, b, c⟩ := h.ok t x hx
          exact ⟨_, b, by omega⟩
      obtain ⟨n, hn, hlt⟩ := this
      exact ⟨(k, n), List.mem_filter.2 ⟨(hall _ _).1 hn, by simpa using hlt⟩, rfl⟩
  have := hp.length_eq
  simpa using this
end

end Go.Proofs.Ytofdcmbjcpfabaa
