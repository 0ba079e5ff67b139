/- Tables of timers: what they show; Twin. -/
import Derived.Test.YtofdcmbjcpfabaaTmF
namespace Go.Proofs.Ytofdcmbjcpfabaa
open Go.RowKit Go.Maps Go.MapKept Go.ChangeMaps
attribute [local go_sem ↓] Go.wp_at_zero Go.wp_at_succ

/-- The timers in their order. -/
def View (L : List (Thing Tm)) (vs : List Tm) : Prop := ∃ l : List (Thing Tm), l.Perm L ∧ l.Pairwise Thing.le ∧ vs = l.map Thing.v

theorem View.snoc {L : List (Thing Tm)} {vs : List Tm} (h : View L vs) (hl : Lawful L) {next : Int} (hn : ∀ x ∈ L, x.num < next) {t : Tm} (ht : ∀ u ∈ vs, u.due ≤ t.due) : View (⟨t.due, next, t⟩ :: L) (vs ++ [t]) := by
  obtain ⟨l, hp, hs, rfl⟩ := h
  refine ⟨l ++ [⟨t.due, next, t⟩], (List.perm_append_singleton _ _).trans (hp.cons _), ?_, by simp⟩
  rw [List.pairwise_append]
  refine ⟨hs, by simp, fun a ha b hb => ?_⟩
  rw [List.mem_singleton.1 hb]
  have haL := hp.mem_iff.1 ha
  have h1 := ht a.v (List.mem_map.2 ⟨a, ha, rfl⟩)
  have h2 := (hl a haL).1
  have h3 := hn a haL
  unfold Thing.le
  show a.key < t.due ∨ (a.key = t.due ∧ a.num ≤ next)
  omega

theorem IsTable.num {w : World} {p : Nat} {S : Nat → Prop} {L : List (Thing Tm)} {next : Int} (h : IsTable w p S L next) : ∀ x ∈ L, x.num < next := by
  obtain ⟨hp, S1, mb, f, _, h2, _⟩ := h
  exact fun x hx => (h2.num x hx).2

theorem View.nil : View [] [] := ⟨[], List.Perm.refl _, List.Pairwise.nil, rfl⟩

theorem View.due {L : List (Thing Tm)} {vs : List Tm} (h : View L vs) (hl : Lawful L) : vs.Pairwise (fun a b => a.due ≤ b.due) := by
  obtain ⟨l, hp, hs, rfl⟩ := h
  rw [List.pairwise_map]
  refine List.Pairwise.imp_of_mem (fun {a b} ha hb hab => ?_) hs
  have h1 := (hl a (hp.mem_iff.1 ha)).1
  have h2 := (hl b (hp.mem_iff.1 hb)).1
  unfold Thing.le at hab
  omega

theorem View.len {L : List (Thing Tm)} {vs : List Tm} (h : View L vs) : vs.length = L.length := by
  obtain ⟨l, hp, _, rfl⟩ := h
  rw [List.length_map, hp.length_eq]

theorem View.mem {L : List (Thing Tm)} {vs : List Tm} (h : View L vs) {t : Tm} : t ∈ vs ↔ ∃ x ∈ L, x.v = t := by
  obtain ⟨l, hp, _, rfl⟩ := h
  rw [List.mem_map]
  exact ⟨fun ⟨x, hx, e⟩ => ⟨x, hp.mem_iff.1 hx, e⟩, fun ⟨x, hx, e⟩ => ⟨x, hp.mem_iff.2 hx, e⟩⟩

/-- A name comes once. -/
theorem View.names {w : World} {p : Nat} {S : Nat → Prop} {L : List (Thing Tm)} {next : Int} (h : IsTable w p S L next) {vs : List Tm} (hv : View L vs) : vs.Pairwise (fun a b => ¬ (a.owner = b.owner ∧ a.id = b.id)) := by
  have hone := fun x y hx hy ho hi => h.one (x := x) (y := y) hx hy ho hi
  obtain ⟨hp, S1, mb, f, _, _, _, _, _, h6, _⟩ := h
  obtain ⟨l, hpm, _, rfl⟩ := hv
  rw [List.pairwise_map]
  have hnd : l.Pairwise (fun a b => a.num ≠ b.num) := List.pairwise_map.1 ((hpm.map Thing.num).nodup_iff.2 h6)
  refine List.Pairwise.imp_of_mem (fun {a b} ha hb hab e => hab ?_) hnd
  rw [hone a b (hpm.mem_iff.1 ha) (hpm.mem_iff.1 hb) e.1 e.2]

/-- Another table. -/
def TwinT (w : World) (L : List (Thing Tm)) (e : Ending) (w' : World) : Prop :=
  ∃ p' S' L2 n2, e = .returned (.pointer (some ⟨p', 0, none⟩)) ∧ IsTable w' p' S' L2 n2 ∧ n2 ≤ L.length ∧ (∃ vs, View L vs ∧ View L2 vs) ∧ (∀ k, S' k → w.heap.size ≤ k) ∧ Keeps NoBlk w w'

set_option maxRecDepth 100000 in
set_option maxHeartbeats 4000000 in
theorem twin_o (w : World) (p : Nat) (S : Nat → Prop) (L : List (Thing Tm)) (next : Int) (h : IsTable w p S L next) (hbig : L.length ≤ 4096) :
    Calls Try.prog 42 #[.pointer (some ⟨p, 0, none⟩)] w (TwinT w L) := by
  have hmade := made_o w p S L next h
  have hnew := newTable_o w
  have hlaw := h.lawful
  go_enter Try.func42, Try.ntmps42
  go_wp2_with fail
  refine hmade.mono ?_
  rintro e w1 ⟨rfl, rfl⟩
  go_wp2_with fail
  refine hnew.mono ?_
  rintro e w1 ⟨p', S0, rfl, hT0, m0⟩
  have k1 : Keeps NoBlk w w1 := m0.keeps
  have h1 := h.keep k1 (fun _ _ x => x)
  have hall := allTable_o w1 p S L next h1 (by omega)
  go_wp2_with fail
  refine hall.mono ?_
  intro e w2 hq
  obtain ⟨a, c, l, rfl, hperm, hsort, hrow, hfr, k2⟩ := hq
  obtain ⟨n, hn⟩ : ∃ n, l.length = n := ⟨_, rfl⟩
  have hvl : (l.map Thing.v).length = n := by rw [List.length_map, hn]
  rw [hvl] at hrow
  rw [hn] at hfr ⊢
  have hnb : n ≤ 4096 := by rw [← hn, hperm.length_eq]; exact hbig
  have hview : View L (l.map Thing.v) := ⟨l, hperm, hsort, rfl⟩
  have hdue := hview.due hlaw
  have hnam := View.names h hview
  have hnh : Hid (n = L.length) := by show _ = _; rw [← hn, hperm.length_eq]
  have hmem : ∀ t ∈ l.map Thing.v, 0 ≤ t.id ∧ t.id ≤ 9223372036854775807 ∧ t.owner.size ≤ maxLen := fun t ht => by
    obtain ⟨x, hx, rfl⟩ := List.mem_map.1 ht
    exact (hlaw x (hperm.mem_iff.1 hx)).2
  obtain ⟨vs, hvs⟩ : ∃ vs, l.map Thing.v = vs := ⟨_, rfl⟩
  rw [hvs] at hrow hvl hview hdue hnam hmem
  have hS0 : ∀ k, S0 k → w.heap.size ≤ k := fun k hk => (m0.foot k hk).resolve_left id
  have hT2 := hT0.keep k2 (fun _ _ x => x)
  have hfr0 : ∀ b, (Value.slice a n c).ownBlock = some b → ¬ S0 b := fun b hb hs => by have := hfr b hb; have := hT0.lt b hs; omega
  have k02 : Keeps NoBlk w w2 := k1.trans k2 (fun _ _ x => x)
  have hvlh : Hid (vs.length = n) := hvl
  clear hall hnew hmade hperm hsort hvs hn hvl h1 k1 k2 hT0 hfr
  go_wp2_with fail
  go_loopw [13] (fun iv wr => ∃ (k : Nat) (S' : Nat → Prop) (Lk : List (Thing Tm)), iv = .int .i64 k ∧ k ≤ n ∧ IsTable wr p' S' Lk k ∧ View Lk (vs.take k) ∧ (∀ b, S' b → w.heap.size ≤ b) ∧ (∀ b, (Value.slice a n c).ownBlock = some b → ¬ S' b) ∧ RowV wr 53 3 encTm (.slice a n c) vs ∧ Keeps NoBlk w wr) (fun iv _ => n - (intOf iv).toNat)
  case atStart => exact ⟨0, S0, [], rfl, Nat.zero_le _, hT2, View.nil, hS0, hfr0, hrow, k02⟩
  case round =>
    clear hT2 hS0 hfr0 hrow k02
    obtain ⟨k, S', Lk, rfl, hkn, hT, hV, hS, hfr, hrow, hK⟩ := hrel
    have kz : (0 : Int) ≤ k := by omega
    by_cases hlt : (k : Int) < n
    · have hkl : k < vs.length := by rw [hvlh.out]; omega
      obtain ⟨g, c', ev, hg, q0, q1, q2⟩ := tmsAt hrow hkl
      rw [hvlh.out] at ev
      cases ev
      obtain ⟨t, ht⟩ : ∃ t, vs[k] = t := ⟨_, rfl⟩
      rw [ht] at q0 q1 q2
      have htm := hmem t (by rw [← ht]; exact List.getElem_mem hkl)
      have htk : vs.take (k + 1) = vs.take k ++ [t] := by rw [List.take_succ_eq_append_getElem hkl, ht]
      have hLk : Lk.length = k := by rw [← hV.len, List.length_take]; omega
      have hbelow : ∀ u ∈ vs.take k, u.due ≤ t.due ∧ ¬ (u.owner = t.owner ∧ u.id = t.id) := fun u hu => by
        obtain ⟨j, hj⟩ := List.mem_iff_getElem?.1 hu
        have hjk : j < k := by have := (List.getElem?_eq_some_iff.1 hj).1; rw [List.length_take] at this; omega
        rw [List.getElem?_take_of_lt hjk, List.getElem?_eq_getElem (by omega)] at hj
        have e := Option.some.inj hj
        have a1 := List.pairwise_iff_getElem.1 hdue j k (by omega) hkl hjk
        have a2 := List.pairwise_iff_getElem.1 hnam j k (by omega) hkl hjk
        rw [e, ht] at a1 a2
        exact ⟨a1, a2⟩
      have hTa : IsTable (wr.alloc (.cells #[.int .i64 t.due, .string t.owner, .int .i64 t.id] 53)) p' S' Lk k := hT.keep ((Keeps.refl NoBlk _).alloc _) (fun _ _ z => z)
      have hrowa : RowV (wr.alloc (.cells #[.int .i64 t.due, .string t.owner, .int .i64 t.id] 53)) 53 3 encTm (.slice (some ⟨g, 0, none⟩) n c) vs := hrow.at_block (fun b hb => Below.heap_alloc _ _ _ (World.ownsRow.lt hrow b hb).2)
      have hset := set_o _ p' S' Lk k hTa t.due t.owner t.id htm.2.2 (WalkArith.wf_i64 (by omega)) (by omega) (by omega)
      have hKa : Keeps NoBlk w (wr.alloc (.cells #[.int .i64 t.due, .string t.owner, .int .i64 t.id] 53)) := hK.alloc _
      have hnum : ∀ x ∈ Lk, x.num < (k : Int) := hTa.num
      have hVn := hV.snoc hTa.lawful hnum (fun u hu => (hbelow u hu).1)
      rw [← htk] at hVn
      have hno : ∀ x ∈ Lk, ¬ (x.v.owner = t.owner ∧ x.v.id = t.id) := fun x hx => (hbelow x.v (hV.mem.2 ⟨x, hx, rfl⟩)).2
      clear ht htk hT hrow hK hV hbelow
      go_wp2_with fail
      refine hset.mono ?_
      intro e w3 hp3
      obtain ⟨hb, _⟩ | ⟨_, ⟨x, hx, hb⟩, _⟩ | ⟨_, _, hb, _⟩ | ⟨_, _, _, rfl, S3, hT3, m3⟩ := hp3
      · omega
      · exact absurd hb (hno x hx)
      · omega
      · have hrow3 := hrowa.at_block (fun b hb => m3.keeps.block b (World.ownsRow.lt hrowa b hb).2 (hfr b hb))
        have hfr3 : ∀ b, (Value.slice (some ⟨g, 0, none⟩) n c).ownBlock = some b → ¬ S3 b := fun b hb hs => m3.apart (T := fun k => (Value.slice (some ⟨g, 0, none⟩) n c).ownBlock = some k) (fun k e => (World.ownsRow.lt hrowa k e).2) (fun k hz e => hfr k e hz) b hs hb
        have hS3 : ∀ b, S3 b → w.heap.size ≤ b := fun b hb => by
          rcases m3.foot b hb with e | e
          · exact hS b e
          · exact Nat.le_trans hKa.size e
        have hK3 : Keeps NoBlk w w3 := hKa.trans m3.keeps (fun b hb hs => by have := hS b hs; omega)
        have hT3' : IsTable w3 p' S3 (⟨t.due, (k : Int), t⟩ :: Lk) ((k + 1 : Nat) : Int) := by
          have : (((k + 1 : Nat) : Int)) = (k : Int) + 1 := by omega
          rw [this]; exact hT3
        clear hset hTa hrowa hT3 m3 hKa
        go_wp2_with fail
        go_roundw
        case rel => exact ⟨k + 1, S3, _, by go_num, by omega, hT3', hVn, hS3, hfr3, hrow3, hK3⟩
        case measure => simp [intOf]; omega
    · have hkn2 : k = n := by omega
      subst hkn2
      rw [List.take_of_length_le (Nat.le_of_eq hvlh.out)] at hV
      go_wp2_with fail
      go_ret
      exact ⟨p', S', Lk, _, rfl, hT, by have := hnh.out; omega, ⟨vs, hview, hV⟩, hS, hK⟩

end Go.Proofs.Ytofdcmbjcpfabaa
