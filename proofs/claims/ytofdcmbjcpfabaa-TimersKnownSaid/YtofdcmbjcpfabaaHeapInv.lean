/- The plain heap keeps its order: rise, sink, push, drop, another key. No program here. -/
import Derived.Test.YtofdcmbjcpfabaaHeapPure
namespace Go.Proofs.Ytofdcmbjcpfabaa

section
variable {V : Type}

/-- x stands nowhere behind y. -/
def Thing.le (x y : Thing V) : Prop := x.key < y.key ∨ (x.key = y.key ∧ x.num ≤ y.num)

theorem Thing.le_of_lt {x y : Thing V} (h : x.lt y = true) : x.le y := by
  rw [Thing.lt_iff] at h; unfold Thing.le; omega
theorem Thing.le_of_not_lt {x y : Thing V} (h : ¬ x.lt y = true) : y.le x := by
  rw [Thing.lt_iff] at h; unfold Thing.le; omega
theorem Thing.not_lt_of_le {x y : Thing V} (h : y.le x) : ¬ x.lt y = true := by
  rw [Thing.lt_iff]; unfold Thing.le at h; omega
theorem Thing.le_trans {x y z : Thing V} (h : x.le y) (k : y.le z) : x.le z := by
  unfold Thing.le at *; omega
theorem Thing.le_refl (x : Thing V) : x.le x := by unfold Thing.le; omega

variable [Inhabited V]

/-- Each number has its place, but for x, which is to go to the place i. -/
structure PosH (s : HS V) (i : Nat) (x : Thing V) : Prop where
  lt : i < s.a.length
  pos : ∀ j, j < s.a.length → j ≠ i → s.m (s.get j).num = some (j : Int)
  new : ∀ j, j < s.a.length → j ≠ i → (s.get j).num ≠ x.num
  back : ∀ n v, s.m n = some v → n = x.num ∨ ∃ j, j < s.a.length ∧ j ≠ i ∧ v = (j : Int) ∧ (s.get j).num = n

/-- All but what stands at i and below it is in order, and so are the place above i and those below i. -/
structure OrdH (s : HS V) (i : Nat) : Prop where
  away : ∀ j, 0 < j → j < s.a.length → j ≠ i → (j - 1) / 2 ≠ i → (s.get ((j - 1) / 2)).le (s.get j)
  over : ∀ j, j < s.a.length → 0 < j → (j - 1) / 2 = i → 0 < i → (s.get ((i - 1) / 2)).le (s.get j)

/-- .. and x stands ahead of what is below i. -/
def UpH (s : HS V) (i : Nat) (x : Thing V) : Prop := ∀ j, j < s.a.length → 0 < j → (j - 1) / 2 = i → x.le (s.get j)

structure HS.Ord (s : HS V) : Prop where
  pos : ∀ j, j < s.a.length → s.m (s.get j).num = some (j : Int)
  back : ∀ n v, s.m n = some v → ∃ j, j < s.a.length ∧ v = (j : Int) ∧ (s.get j).num = n
  ord : ∀ j, 0 < j → j < s.a.length → (s.get ((j - 1) / 2)).le (s.get j)

theorem HS.Ord.inj {s : HS V} (h : s.Ord) {i j : Nat} (hi : i < s.a.length) (hj : j < s.a.length) (e : (s.get i).num = (s.get j).num) : i = j := by
  have h1 := h.pos i hi
  have h2 := h.pos j hj
  rw [e, h2] at h1
  cases h1; rfl

theorem HS.Ord.first {s : HS V} (h : s.Ord) : ∀ j, j < s.a.length → (s.get 0).le (s.get j) := by
  intro j
  induction j using Nat.strongRecOn with
  | _ j ih =>
    intro hj
    by_cases h0 : j = 0
    · subst h0; exact Thing.le_refl _
    · exact Thing.le_trans (ih ((j - 1) / 2) (by omega) (by omega)) (h.ord j (by omega) hj)

/-- laid: the hole is filled. -/
theorem ord_lay {s : HS V} {i : Nat} {x : Thing V} (hp : PosH s i x) (ho : OrdH s i) (hu : UpH s i x) (hup : 0 < i → (s.get ((i - 1) / 2)).le x) : (s.lay i x).Ord := by
  have hl := hp.lt
  refine ⟨fun j hj => ?_, fun n v hv => ?_, fun j h0 hj => ?_⟩
  · rw [HS.length_lay] at hj
    rw [HS.get_lay]
    by_cases e : i = j
    · subst e; rw [if_pos ⟨rfl, hl⟩]; exact fput_same _ _ _
    · rw [if_neg (fun h => e h.1)]
      show fput s.m x.num i _ = _
      rw [fput_other _ _ (hp.new j hj (Ne.symm e))]
      exact hp.pos j hj (Ne.symm e)
  · rw [HS.length_lay]
    by_cases e : n = x.num
    · subst e
      have : fput s.m x.num (i : Int) x.num = some v := hv
      rw [fput_same] at this
      cases this
      exact ⟨i, hl, rfl, by rw [HS.get_lay, if_pos ⟨rfl, hl⟩]⟩
    · have hv' : fput s.m x.num (i : Int) n = some v := hv
      rw [fput_other _ _ e] at hv'
      rcases hp.back n v hv' with h | ⟨j, h1, h2, h3, h4⟩
      · exact absurd h e
      · exact ⟨j, h1, h3, by rw [HS.get_lay, if_neg (fun h => h2 h.1.symm)]; exact h4⟩
  · rw [HS.length_lay] at hj
    have g1 := HS.get_lay s i x ((j - 1) / 2)
    have g2 := HS.get_lay s i x j
    by_cases e : i = j
    · subst e
      rw [if_neg (by omega)] at g1
      rw [if_pos ⟨rfl, hl⟩] at g2
      rw [g1, g2]
      exact hup h0
    · rw [if_neg (fun h => e h.1)] at g2
      by_cases e2 : i = (j - 1) / 2
      · rw [if_pos ⟨e2, hl⟩] at g1
        rw [g1, g2]
        exact hu j hj h0 e2.symm
      · rw [if_neg (fun h => e2 h.1)] at g1
        rw [g1, g2]
        exact ho.away j h0 hj (Ne.symm e) (Ne.symm e2)

/-- The thing at q goes to the hole i: the hole is at q. -/
theorem posH_move {s : HS V} {i q : Nat} {x : Thing V} (hp : PosH s i x) (hq : q < s.a.length) (hqi : q ≠ i) : PosH (s.lay i (s.get q)) q x := by
  have hl := hp.lt
  refine ⟨by simpa using hq, fun j hj hjq => ?_, fun j hj hjq => ?_, fun n v hv => ?_⟩
  · rw [HS.length_lay] at hj
    rw [HS.get_lay]
    by_cases e : i = j
    · subst e; rw [if_pos ⟨rfl, hl⟩]; exact fput_same _ _ _
    · rw [if_neg (fun h => e h.1)]
      show fput s.m (s.get q).num (i : Int) _ = _
      rw [fput_other _ _ ?_]
      · exact hp.pos j hj (Ne.symm e)
      · intro e2
        have h1 := hp.pos j hj (Ne.symm e)
        have h2 := hp.pos q hq hqi
        rw [e2, h2] at h1
        cases h1
        exact hjq rfl
  · rw [HS.length_lay] at hj
    rw [HS.get_lay]
    by_cases e : i = j
    · subst e; rw [if_pos ⟨rfl, hl⟩]; exact hp.new q hq hqi
    · rw [if_neg (fun h => e h.1)]; exact hp.new j hj (Ne.symm e)
  · rw [HS.length_lay]
    by_cases e : n = (s.get q).num
    · subst e
      have : fput s.m (s.get q).num (i : Int) (s.get q).num = some v := hv
      rw [fput_same] at this
      cases this
      exact .inr ⟨i, hl, Ne.symm hqi, rfl, by rw [HS.get_lay, if_pos ⟨rfl, hl⟩]⟩
    · have hv' : fput s.m (s.get q).num (i : Int) n = some v := hv
      rw [fput_other _ _ e] at hv'
      rcases hp.back n v hv' with h | ⟨j, h1, h2, h3, h4⟩
      · exact .inl h
      · refine .inr ⟨j, h1, fun hjq => ?_, h3, by rw [HS.get_lay, if_neg (fun h => h2 h.1.symm)]; exact h4⟩
        subst hjq; exact e h4.symm

theorem perm_set_get {l : List (Thing V)} {i q : Nat} {x : Thing V} (hi : i < l.length) (hq : q < l.length) : ((l.set i (l.getD q default)).set q x).Perm (l.set i x) := by
  have h1 : l.getD q default = l[q] := by simp [List.getD, hq]
  rw [h1]
  by_cases e : i = q
  · subst e; rw [List.set_set]
  · have h2 := List.set_set_perm (as := l.set i x) (i := i) (j := q) (by simpa using hi) (by simpa using hq)
    rw [List.set_set, List.getElem_set_self, List.getElem_set_ne e] at h2
    exact h2

theorem perm_lay_get {s : HS V} {i q : Nat} {x : Thing V} (hi : i < s.a.length) (hq : q < s.a.length) : ((s.lay i (s.get q)).a.set q x).Perm (s.a.set i x) := perm_set_get hi hq

/-- x comes up: all is in order. -/
theorem rise_spec (i : Nat) : ∀ (s : HS V) (x : Thing V), PosH s i x → OrdH s i → UpH s i x → (s.rise i x).Ord ∧ (s.rise i x).a.Perm (s.a.set i x) := by
  induction i using Nat.strongRecOn with
  | _ i ih =>
    intro s x hp ho hu
    have hl := hp.lt
    rw [HS.rise_eq]
    by_cases h : 0 < i ∧ x.lt (s.get ((i - 1) / 2)) = true
    · rw [if_pos h]
      obtain ⟨h0, hlt⟩ := h
      obtain ⟨q, hq⟩ : ∃ q, (i - 1) / 2 = q := ⟨_, rfl⟩
      rw [hq] at hlt ⊢
      have hqi : q < i := by omega
      have hql : q < s.a.length := by omega
      have hxq := Thing.le_of_lt hlt
      have g : ∀ j, (s.lay i (s.get q)).get j = if i = j ∧ i < s.a.length then s.get q else s.get j := HS.get_lay s i _
      have := ih q hqi (s.lay i (s.get q)) x (posH_move hp hql (by omega)) ⟨fun j h0' hj hjq hpj => ?_, fun j hj h0' hpj hq0 => ?_⟩ (fun j hj h0' hpj => ?_)
      · exact ⟨this.1, this.2.trans (perm_lay_get hl hql)⟩
      · -- away
        rw [HS.length_lay] at hj
        have gj := g j
        have gp := g ((j - 1) / 2)
        by_cases e : i = j
        · subst e; exact absurd hq hpj
        · rw [if_neg (fun h => e h.1)] at gj
          by_cases e2 : i = (j - 1) / 2
          · rw [if_pos ⟨e2, hl⟩] at gp
            rw [gj, gp]
            have := ho.over j hj h0' e2.symm h0
            rwa [hq] at this
          · rw [if_neg (fun h => e2 h.1)] at gp
            rw [gj, gp]
            exact ho.away j h0' hj (Ne.symm e) (Ne.symm e2)
      · -- over
        rw [HS.length_lay] at hj
        have gj := g j
        have gp := g ((q - 1) / 2)
        rw [if_neg (by omega)] at gp
        rw [gp, gj]
        have hr : (s.get ((q - 1) / 2)).le (s.get q) := ho.away q hq0 hql (by omega) (by omega)
        by_cases e : i = j
        · rw [if_pos ⟨e, hl⟩]; exact hr
        · rw [if_neg (fun h => e h.1)]
          have h3 := ho.away j h0' hj (Ne.symm e) (by omega)
          rw [hpj] at h3
          exact Thing.le_trans hr h3
      · -- up
        rw [HS.length_lay] at hj
        rw [g j]
        by_cases e : i = j
        · rw [if_pos ⟨e, hl⟩]; exact hxq
        · rw [if_neg (fun h => e h.1)]
          have h3 := ho.away j h0' hj (Ne.symm e) (by omega)
          rw [hpj] at h3
          exact Thing.le_trans hxq h3
    · rw [if_neg h]
      refine ⟨ord_lay hp ho hu (fun h0 => ?_), List.Perm.refl _⟩
      exact Thing.le_of_not_lt (fun hlt => h ⟨h0, hlt⟩)

/-- x goes down: then it may only be too far down. -/
theorem sink_spec (d : Nat) : ∀ (i : Nat) (s : HS V) (x : Thing V), s.a.length - i = d → PosH s i x → OrdH s i →
    ∃ k s', s.sink i x = s'.lay k x ∧ PosH s' k x ∧ OrdH s' k ∧ UpH s' k x ∧ (s'.a.set k x).Perm (s.a.set i x) ∧ s'.a.length = s.a.length := by
  induction d using Nat.strongRecOn with
  | _ d ih =>
    intro i s x hd hp ho
    have hl := hp.lt
    rw [HS.sink_eq]
    by_cases h1 : s.a.length ≤ 2 * i + 1
    · rw [if_pos h1]
      exact ⟨i, s, rfl, hp, ho, fun j hj h0 hpj => by omega, List.Perm.refl _, rfl⟩
    · rw [if_neg h1]
      obtain ⟨c, hc⟩ : ∃ c, s.less i = c := ⟨_, rfl⟩
      rw [hc]
      have hcc : (c = 2 * i + 1 ∨ c = 2 * i + 2) ∧ c < s.a.length ∧ ∀ j, j < s.a.length → 0 < j → (j - 1) / 2 = i → (s.get c).le (s.get j) := by
        unfold HS.less at hc
        split at hc
        · rename_i h
          obtain ⟨h2, h3⟩ := h
          subst hc
          refine ⟨.inr rfl, h2, fun j hj h0 hpj => ?_⟩
          have hj2 : j = 2 * i + 1 ∨ j = 2 * i + 2 := by omega
          rcases hj2 with rfl | rfl
          · exact Thing.le_of_lt h3
          · exact Thing.le_refl _
        · rename_i h
          subst hc
          refine ⟨.inl rfl, by omega, fun j hj h0 hpj => ?_⟩
          have hj2 : j = 2 * i + 1 ∨ j = 2 * i + 2 := by omega
          rcases hj2 with rfl | rfl
          · exact Thing.le_refl _
          · exact Thing.le_of_not_lt (fun hlt => h ⟨hj, hlt⟩)
      obtain ⟨hcv, hcl, hcm⟩ := hcc
      have hci : c ≠ i := by omega
      have hcp : (c - 1) / 2 = i := by omega
      by_cases h2 : x.lt (s.get c) = true
      · rw [if_pos h2]
        exact ⟨i, s, rfl, hp, ho, fun j hj h0 hpj => Thing.le_trans (Thing.le_of_lt h2) (hcm j hj h0 hpj), List.Perm.refl _, rfl⟩
      · rw [if_neg h2]
        have g : ∀ j, (s.lay i (s.get c)).get j = if i = j ∧ i < s.a.length then s.get c else s.get j := HS.get_lay s i _
        obtain ⟨k, s', e, q1, q2, q3, q4, q5⟩ := ih (s.a.length - c) (by omega) c (s.lay i (s.get c)) x (by simp) (posH_move hp hcl hci) ⟨fun j h0' hj hjq hpj => by
            rw [HS.length_lay] at hj
            have gj := g j
            have gp := g ((j - 1) / 2)
            by_cases e : i = j
            · subst e
              rw [if_pos ⟨rfl, hl⟩] at gj
              rw [if_neg (by omega)] at gp
              rw [gj, gp]
              exact ho.over c hcl (by omega) hcp (by omega)
            · rw [if_neg (fun h => e h.1)] at gj
              by_cases e2 : i = (j - 1) / 2
              · rw [if_pos ⟨e2, hl⟩] at gp
                rw [gj, gp]
                exact hcm j hj h0' e2.symm
              · rw [if_neg (fun h => e2 h.1)] at gp
                rw [gj, gp]
                exact ho.away j h0' hj (Ne.symm e) (Ne.symm e2), fun j hj h0' hpj hq0 => by
            rw [HS.length_lay] at hj
            rw [g j, g ((c - 1) / 2), if_pos ⟨hcp.symm, hl⟩, if_neg (by omega)]
            have h3 := ho.away j h0' hj (by omega) (by omega)
            rwa [hpj] at h3⟩
        exact ⟨k, s', e, q1, q2, q3, q4.trans (perm_lay_get hl hcl), by rw [q5, HS.length_lay]⟩

/-- Down, then up from where it is: all is in order. -/
theorem sink_rise (s : HS V) (i : Nat) (x : Thing V) (hp : PosH s i x) (ho : OrdH s i) :
    ∃ k, k < s.a.length ∧ (s.sink i x).m x.num = some (k : Int) ∧ (s.sink i x).get k = x ∧ ((s.sink i x).rise k x).Ord ∧ ((s.sink i x).rise k x).a.Perm (s.a.set i x) ∧ (s.sink i x).a.Perm (s.a.set i x) := by
  obtain ⟨k, s', e, q1, q2, q3, q4, q5⟩ := sink_spec _ i s x rfl hp ho
  have hk := q1.lt
  rw [e]
  have g : ∀ j, (s'.lay k x).get j = if k = j ∧ k < s'.a.length then x else s'.get j := HS.get_lay s' k x
  have gn : ∀ j, j ≠ k → (s'.lay k x).get j = s'.get j := fun j hj => by rw [g, if_neg (fun h => hj h.1.symm)]
  have hs := rise_spec k (s'.lay k x) x
    ⟨by simpa using hk, fun j hj hjk => by
        rw [HS.length_lay] at hj
        rw [gn j hjk]
        show fput s'.m x.num (k : Int) _ = _
        rw [fput_other _ _ (q1.new j hj hjk)]
        exact q1.pos j hj hjk, fun j hj hjk => by
        rw [HS.length_lay] at hj
        rw [gn j hjk]; exact q1.new j hj hjk, fun n v hv => by
        rw [HS.length_lay]
        by_cases en : n = x.num
        · exact .inl en
        · have hv' : fput s'.m x.num (k : Int) n = some v := hv
          rw [fput_other _ _ en] at hv'
          rcases q1.back n v hv' with h | ⟨j, h1, h2, h3, h4⟩
          · exact .inl h
          · exact .inr ⟨j, h1, h2, h3, by rw [gn j h2]; exact h4⟩⟩
    ⟨fun j h0 hj hjk hpk => by
        rw [HS.length_lay] at hj
        rw [gn j hjk, gn _ hpk]; exact q2.away j h0 hj hjk hpk, fun j hj h0 hpj hk0 => by
        rw [HS.length_lay] at hj
        rw [gn j (by omega), gn _ (by omega)]; exact q2.over j hj h0 hpj hk0⟩
    (fun j hj h0 hpj => by
        rw [HS.length_lay] at hj
        rw [gn j (by omega)]; exact q3 j hj h0 hpj)
  have : (s'.lay k x).a.set k x = s'.a.set k x := by simp [HS.lay]
  rw [this] at hs
  exact ⟨k, by omega, fput_same _ _ _, by rw [g, if_pos ⟨rfl, hk⟩], hs.1, hs.2.trans q4, q4⟩

theorem ord_nil : (⟨[], fun _ => none⟩ : HS V).Ord := ⟨fun j hj => (by simp at hj), fun n v h => (by cases h), fun j _ hj => (by simp at hj)⟩

/-- A push keeps the order. -/
theorem HS.Ord.push {s : HS V} (h : s.Ord) (x : Thing V) (hx : ∀ j, j < s.a.length → (s.get j).num ≠ x.num) : (s.push x).Ord ∧ (s.push x).a.Perm (x :: s.a) := by
  have g := HS.get_push s x
  have hl : (⟨s.a ++ [x], s.m⟩ : HS V).a.length = s.a.length + 1 := by simp
  have := rise_spec s.a.length ⟨s.a ++ [x], s.m⟩ x
    ⟨by rw [hl]; omega, fun j hj hjk => by
        rw [hl] at hj
        rw [g, if_neg hjk]; exact h.pos j (by omega), fun j hj hjk => by
        rw [hl] at hj
        rw [g, if_neg hjk]; exact hx j (by omega), fun n v hv => by
        obtain ⟨j, h1, h2, h3⟩ := h.back n v hv
        exact .inr ⟨j, by rw [hl]; omega, by omega, h2, by rw [g, if_neg (by omega)]; exact h3⟩⟩
    ⟨fun j h0 hj hjk hpk => by
        rw [hl] at hj
        rw [g, g, if_neg hjk, if_neg hpk]; exact h.ord j h0 (by omega), fun j hj h0 hpj _ => by
        rw [hl] at hj; omega⟩
    (fun j hj h0 hpj => by rw [hl] at hj; omega)
  refine ⟨this.1, this.2.trans ?_⟩
  have e : (s.a ++ [x]).set s.a.length x = s.a ++ [x] := by
    rw [List.set_append_right _ _ (Nat.le_refl _)]; simp
  show ((s.a ++ [x]).set s.a.length x).Perm _
  rw [e]
  exact List.perm_append_singleton _ _

/-- What is left when the thing at i is gone: a hole at i, the last thing to go there. -/
theorem cut_hole {s : HS V} (h : s.Ord) {i : Nat} (hi : i < s.a.length - 1) : PosH (s.cut i) i (s.get (s.a.length - 1)) ∧ OrdH (s.cut i) i := by
  have hl := HS.length_cut s i
  have g : ∀ j, j < s.a.length - 1 → (s.cut i).get j = s.get j := HS.get_cut s i
  refine ⟨⟨by omega, fun j hj hji => ?_, fun j hj hji e => ?_, fun n v hv => ?_⟩, ⟨fun j h0 hj hji hpj => ?_, fun j hj h0 hpj hi0 => ?_⟩⟩
  · rw [hl] at hj
    rw [g j hj]
    show fdel s.m (s.get i).num _ = _
    rw [fdel_other _ (fun e => hji (h.inj (by omega) (by omega) e))]
    exact h.pos j (by omega)
  · rw [hl] at hj
    rw [g j hj] at e
    have := h.inj (by omega) (by omega) e
    omega
  · have hv' : fdel s.m (s.get i).num n = some v := hv
    by_cases e : n = (s.get i).num
    · subst e; rw [fdel_same] at hv'; cases hv'
    · rw [fdel_other _ e] at hv'
      obtain ⟨j, h1, h2, h3⟩ := h.back n v hv'
      by_cases e2 : j = s.a.length - 1
      · subst e2; exact .inl h3.symm
      · exact .inr ⟨j, by rw [hl]; omega, fun e3 => e (by rw [← h3, e3]), h2, by rw [g j (by omega)]; exact h3⟩
  · rw [hl] at hj
    rw [g j hj, g _ (by omega)]; exact h.ord j h0 (by omega)
  · rw [hl] at hj
    rw [g j hj, g _ (by omega)]
    have h1 := h.ord i hi0 (by omega)
    have h2 := h.ord j h0 (by omega)
    rw [hpj] at h2
    exact Thing.le_trans h1 h2

theorem perm_cut {l : List (Thing V)} {i : Nat} (hi : i < l.length - 1) : (l.getD i default :: (l.take (l.length - 1)).set i (l.getD (l.length - 1) default)).Perm l := by
  obtain ⟨m, y, rfl⟩ : ∃ m y, l = m ++ [y] := by
    have := List.take_append_drop (l.length - 1) l
    rw [List.drop_eq_getElem_cons (by omega), List.drop_eq_nil_of_le (by omega)] at this
    exact ⟨_, _, this.symm⟩
  have hl : (m ++ [y]).length - 1 = m.length := by simp
  rw [hl] at hi ⊢
  have h1 : (m ++ [y]).getD i default = m[i] := by simp only [List.getD, List.getElem?_append_left hi, List.getElem?_eq_getElem hi, Option.getD_some]
  have h2 : (m ++ [y]).getD m.length default = y := by simp [List.getD]
  rw [h1, h2, List.take_left' rfl]
  have h4 := List.set_set_perm (as := m ++ [y]) (i := i) (j := m.length) (by simp; omega) (by simp)
  rw [List.getElem_append_right (Nat.le_refl _), List.getElem_append_left hi] at h4
  simp only [Nat.sub_self, List.getElem_cons_zero] at h4
  rw [List.set_append_left _ _ hi, List.set_append_right _ _ (by simp)] at h4
  simp only [List.length_set, Nat.sub_self, List.set_cons_zero] at h4
  exact (List.perm_append_singleton _ _).symm.trans h4

/-- A drop keeps the order, and takes away what stands at i. -/
theorem HS.Ord.drop {s : HS V} (h : s.Ord) {i : Nat} (hi : i < s.a.length) :
    (s.drop i).Ord ∧ (s.get i :: (s.drop i).a).Perm s.a ∧
    (i ≠ s.a.length - 1 → s.where_ i < s.a.length - 1 ∧ (s.moved i).m (s.get (s.a.length - 1)).num = some (s.where_ i : Int)) ∧
    (i ≠ s.a.length - 1 → ∀ x ∈ (s.moved i).a, x ∈ s.a) := by
  by_cases e : i = s.a.length - 1
  · refine ⟨?_, ?_, fun h => absurd e h, fun h => absurd e h⟩
    · unfold HS.drop
      rw [if_pos e]
      have hl := HS.length_cut s i
      have g : ∀ j, j < s.a.length - 1 → (s.cut i).get j = s.get j := HS.get_cut s i
      refine ⟨fun j hj => ?_, fun n v hv => ?_, fun j h0 hj => ?_⟩
      · rw [hl] at hj
        rw [g j hj]
        show fdel s.m (s.get i).num _ = _
        rw [fdel_other _ (fun e2 => by have := h.inj (by omega) hi e2; omega)]
        exact h.pos j (by omega)
      · have hv' : fdel s.m (s.get i).num n = some v := hv
        by_cases e2 : n = (s.get i).num
        · subst e2; rw [fdel_same] at hv'; cases hv'
        · rw [fdel_other _ e2] at hv'
          obtain ⟨j, h1, h2, h3⟩ := h.back n v hv'
          have : j ≠ i := fun e3 => e2 (by rw [← h3, e3])
          exact ⟨j, by rw [hl]; omega, h2, by rw [g j (by omega)]; exact h3⟩
      · rw [hl] at hj
        rw [g j hj, g _ (by omega)]; exact h.ord j h0 (by omega)
    · unfold HS.drop
      rw [if_pos e]
      have e1 : s.a.take (s.a.length - 1) ++ [s.get i] = s.a := by
        have := List.take_append_drop (s.a.length - 1) s.a
        rw [List.drop_eq_getElem_cons (by omega), List.drop_eq_nil_of_le (by omega)] at this
        have e2 : s.get i = s.a[s.a.length - 1] := by
          subst e; simp only [HS.get, List.getD, List.getElem?_eq_getElem (show s.a.length - 1 < s.a.length by omega), Option.getD_some]
        rw [e2]; exact this
      have := List.perm_append_singleton (s.get i) (s.a.take (s.a.length - 1))
      rw [e1] at this
      exact this.symm
  · obtain ⟨hp, ho⟩ := cut_hole h (i := i) (by omega)
    have hl := HS.length_cut s i
    have hp2 : PosH ((s.cut i).lay i (s.get (s.a.length - 1))) i (s.get (s.a.length - 1)) := by
      have hil := hp.lt
      have g : ∀ j, j ≠ i → ((s.cut i).lay i (s.get (s.a.length - 1))).get j = (s.cut i).get j := fun j hj => by rw [HS.get_lay, if_neg (fun h => hj h.1.symm)]
      refine ⟨by simpa using hil, fun j hj hji => ?_, fun j hj hji => ?_, fun n v hv => ?_⟩
      · rw [HS.length_lay] at hj
        rw [g j hji]
        show fput (s.cut i).m _ _ _ = _
        rw [fput_other _ _ (hp.new j hj hji)]; exact hp.pos j hj hji
      · rw [HS.length_lay] at hj
        rw [g j hji]; exact hp.new j hj hji
      · rw [HS.length_lay]
        by_cases en : n = (s.get (s.a.length - 1)).num
        · exact .inl en
        · have hv' : fput (s.cut i).m (s.get (s.a.length - 1)).num (i : Int) n = some v := hv
          rw [fput_other _ _ en] at hv'
          rcases hp.back n v hv' with h | ⟨j, h1, h2, h3, h4⟩
          · exact .inl h
          · exact .inr ⟨j, h1, h2, h3, by rw [g j h2]; exact h4⟩
    have ho2 : OrdH ((s.cut i).lay i (s.get (s.a.length - 1))) i := by
      have g : ∀ j, j ≠ i → ((s.cut i).lay i (s.get (s.a.length - 1))).get j = (s.cut i).get j := fun j hj => by rw [HS.get_lay, if_neg (fun h => hj h.1.symm)]
      exact ⟨fun j h0 hj hji hpj => by rw [HS.length_lay] at hj; rw [g j hji, g _ hpj]; exact ho.away j h0 hj hji hpj,
        fun j hj h0 hpj hi0 => by rw [HS.length_lay] at hj; rw [g j (by omega), g _ (by omega)]; exact ho.over j hj h0 hpj hi0⟩
    obtain ⟨k, hk, hm, hg, hord, hperm, hperm2⟩ := sink_rise _ i _ hp2 ho2
    rw [HS.length_lay, hl] at hk
    have hw : s.where_ i = k := by
      unfold HS.where_ HS.moved
      rw [hm]; simp
    have e2 : ((s.cut i).lay i (s.get (s.a.length - 1))).a.set i (s.get (s.a.length - 1)) = (s.a.take (s.a.length - 1)).set i (s.get (s.a.length - 1)) := by
      simp [HS.lay, HS.cut]
    have hpc : (s.get i :: (s.a.take (s.a.length - 1)).set i (s.get (s.a.length - 1))).Perm s.a := perm_cut (by omega)
    refine ⟨?_, ?_, fun _ => ⟨by omega, by rw [hw]; exact hm⟩, fun _ x hx => ?_⟩
    · unfold HS.drop
      rw [if_neg e, hw]
      unfold HS.moved
      rw [hg]; exact hord
    · unfold HS.drop
      rw [if_neg e, hw]
      unfold HS.moved
      rw [hg]
      refine (hperm.cons _).trans ?_
      rw [e2]
      exact hpc
    · unfold HS.moved at hx
      rw [hperm2.mem_iff, e2] at hx
      exact hpc.mem_iff.1 (List.mem_cons_of_mem _ hx)

/-- The thing at i with another key, put where it belongs. -/
def HS.keyed (s : HS V) (i : Nat) (key : Int) : HS V := ⟨s.a.set i { s.get i with key := key }, s.m⟩
def HS.sunk (s : HS V) (i : Nat) (key : Int) : HS V := (s.keyed i key).sink i { s.get i with key := key }
def HS.whereK (s : HS V) (i : Nat) (key : Int) : Nat := (((s.sunk i key).m (s.get i).num).getD 0).toNat
def HS.change (s : HS V) (i : Nat) (key : Int) : HS V := (s.sunk i key).rise (s.whereK i key) ((s.sunk i key).get (s.whereK i key))

theorem HS.Ord.change {s : HS V} (h : s.Ord) {i : Nat} (hi : i < s.a.length) (key : Int) :
    (s.change i key).Ord ∧ (s.change i key).a.Perm (s.a.set i { s.get i with key := key }) ∧
    s.whereK i key < s.a.length ∧ (s.sunk i key).m (s.get i).num = some (s.whereK i key : Int) ∧ (∀ x ∈ (s.sunk i key).a, ∃ y ∈ s.a, x.num = y.num) := by
  have hl : (s.keyed i key).a.length = s.a.length := by simp [HS.keyed]
  have g : ∀ j, j ≠ i → (s.keyed i key).get j = s.get j := fun j hj => by
    have := HS.get_lay s i { s.get i with key := key } j
    rw [if_neg (fun h => hj h.1.symm)] at this
    exact this
  have hp : PosH (s.keyed i key) i { s.get i with key := key } := by
    refine ⟨by omega, fun j hj hji => ?_, fun j hj hji e => ?_, fun n v hv => ?_⟩
    · rw [hl] at hj; rw [g j hji]; exact h.pos j hj
    · rw [hl] at hj; rw [g j hji] at e; exact hji (h.inj hj hi e)
    · obtain ⟨j, h1, h2, h3⟩ := h.back n v hv
      by_cases e : j = i
      · subst e; exact .inl h3.symm
      · exact .inr ⟨j, by omega, e, h2, by rw [g j e]; exact h3⟩
  have ho : OrdH (s.keyed i key) i := by
    refine ⟨fun j h0 hj hji hpj => ?_, fun j hj h0 hpj hi0 => ?_⟩
    · rw [hl] at hj; rw [g j hji, g _ hpj]; exact h.ord j h0 hj
    · rw [hl] at hj
      rw [g j (by omega), g _ (by omega)]
      have h1 := h.ord i hi0 hi
      have h2 := h.ord j h0 hj
      rw [hpj] at h2
      exact Thing.le_trans h1 h2
  obtain ⟨k, hk, hm, hg, hord, hperm, hperm2⟩ := sink_rise _ i _ hp ho
  have hw : s.whereK i key = k := by
    unfold HS.whereK HS.sunk
    rw [show (s.get i).num = ({ s.get i with key := key } : Thing V).num from rfl, hm]; simp
  refine ⟨?_, ?_, by omega, by rw [hw]; exact hm, fun x hx => ?_⟩
  · unfold HS.change; rw [hw]; unfold HS.sunk; rw [hg]; exact hord
  · unfold HS.change; rw [hw]; unfold HS.sunk; rw [hg]
    refine hperm.trans ?_
    simp [HS.keyed]
  · unfold HS.sunk at hx
    rw [hperm2.mem_iff] at hx
    rcases List.mem_or_eq_of_mem_set hx with hx | rfl
    · unfold HS.keyed at hx
      rcases List.mem_or_eq_of_mem_set hx with hx | rfl
      · exact ⟨x, hx, rfl⟩
      · exact ⟨s.get i, by simp [HS.get, List.getD, hi], rfl⟩
    · exact ⟨s.get i, by simp [HS.get, List.getD, hi], rfl⟩

end
/-- The blocks of a heap. -/
def HFoot (p : Nat) (lv : Value) (mb : Nat) : Nat → Prop := fun k => k = p ∨ k = mb ∨ lv.ownBlock = some k

theorem get_mem {V : Type} [Inhabited V] {s : HS V} {L : List (Thing V)} (hp : s.a.Perm L) {i : Nat} (hi : i < s.a.length) : s.get i ∈ L := by
  refine hp.mem_iff.1 ?_
  have : s.get i = s.a[i] := by simp [HS.get, List.getD, hi]
  rw [this]; exact List.getElem_mem hi

theorem wf_all {V : Type} [Inhabited V] {s : HS V} {L : List (Thing V)} {next : Int} (hp : s.a.Perm L) (hn : ∀ x ∈ L, 0 ≤ x.num ∧ x.num < next) (hb : next ≤ 1000000000) (j : Nat) : (Lit.int .i64 (s.get j).num).wf = true := by
  by_cases hj : j < s.a.length
  · have := hn _ (get_mem hp hj)
    exact WalkArith.wf_i64 (by omega)
  · rw [HS.get_of_ge _ _ (by omega)]
    exact WalkArith.wf_i64 (by show (-9223372036854775808 : Int) ≤ 0 ∧ (0 : Int) ≤ 9223372036854775807; omega)

/-- x is the first of L. -/
def FirstOf {V : Type} (x : Thing V) (L : List (Thing V)) : Prop := x ∈ L ∧ ∀ y ∈ L, x.le y

theorem first_get {V : Type} [Inhabited V] {s : HS V} {L : List (Thing V)} (ho : s.Ord) (hp : s.a.Perm L) (h0 : 0 < s.a.length) : FirstOf (s.get 0) L := by
  refine ⟨get_mem hp h0, fun y hy => ?_⟩
  obtain ⟨j, hj, e⟩ := List.getElem_of_mem (hp.mem_iff.2 hy)
  have : s.get j = y := by rw [← e]; simp [HS.get, List.getD, hj]
  rw [← this]
  exact ho.first j hj

theorem perm_set {V : Type} {l : List (Thing V)} {i : Nat} (hi : i < l.length) (x : Thing V) : ∃ L', l.Perm (l[i] :: L') ∧ (l.set i x).Perm (x :: L') := by
  refine ⟨l.take i ++ l.drop (i + 1), ?_, ?_⟩
  · have h1 : l = l.take i ++ l[i] :: l.drop (i + 1) := by rw [← List.drop_eq_getElem_cons hi, List.take_append_drop]
    exact (List.Perm.of_eq h1).trans List.perm_middle
  · have h1 : l.set i x = l.take i ++ x :: l.drop (i + 1) := List.set_eq_take_append_cons_drop.trans (if_pos hi)
    exact (List.Perm.of_eq h1).trans List.perm_middle

end Go.Proofs.Ytofdcmbjcpfabaa
