/- HeapSorts: the plain law of its loop, and the walk. -/
import Derived.Test.YtofdcmbjcpfabaaLaw03c
import Derived.Test.YtofdcmbjcpfabaaHeapKI
namespace Go.Proofs.Ytofdcmbjcpfabaa
open Go.RowKit Go.Maps Go.MapKept Go.ChangeMaps
attribute [local go_sem ↓] Go.wp_at_zero Go.wp_at_succ

/-- The things of filled, by rising keys. -/
structure Told (ks : List Int) (l : List (Thing Int)) : Prop where
  len : l.length = ks.length
  srt : l.Pairwise Thing.le
  rng : ∀ x ∈ l, 0 ≤ x.num ∧ x.num < ks.length ∧ x.v = x.num ∧ x.key = ks.getD x.num.toNat 0
  nd : (l.map Thing.num).Nodup

theorem told_of (ks : List Int) (l : List (Thing Int)) (hp : l.Perm (filledL ks)) (hs : l.Pairwise Thing.le) : Told ks l := by
  refine ⟨by rw [hp.length_eq]; simp [filledL], hs, fun x hx => ?_, ?_⟩
  · obtain ⟨k, hk, rfl⟩ := List.mem_map.1 (hp.mem_iff.1 hx)
    rw [List.mem_range] at hk
    exact ⟨by simp, by simpa using hk, rfl, by simp⟩
  · rw [(hp.map Thing.num).nodup_iff, filledL, List.map_map]
    refine (List.pairwise_map).2 ((List.nodup_range (n := ks.length)).imp ?_)
    intro a b hab e
    exact hab (by simp only [Function.comp] at e; omega)

theorem thing_same {ks : List Int} {x y : Thing Int} (hx : x.v = x.num ∧ x.key = ks.getD x.num.toNat 0) (hy : y.v = y.num ∧ y.key = ks.getD y.num.toNat 0) (h : x.num = y.num) : x = y := by
  obtain ⟨a, b, c⟩ := x
  obtain ⟨a', b', c'⟩ := y
  simp only at hx hy h
  subst h
  obtain ⟨rfl, rfl⟩ := hx
  obtain ⟨rfl, rfl⟩ := hy
  rfl

theorem Told.same {ks : List Int} {l l' : List (Thing Int)} (h : Told ks l) (h' : Told ks l') (hp : l.Perm l') : l = l' := by
  refine List.Perm.eq_of_pairwise (le := Thing.le) (fun a b ha hb h1 h2 => ?_) h.srt h'.srt hp
  have ra := h.rng a ha
  have rb := h'.rng b hb
  exact thing_same ra.2.2 rb.2.2 (by unfold Thing.le at h1 h2; omega)

/-- What the loop keeps: what is in the heap yet, and what was popped last. -/
structure Hs1 (ks : List Int) (l : List (Thing Int)) (i : Nat) (L : List (Thing Int)) (tb : List Bool) (lk ln : Int) : Prop where
  perm : L.Perm (l.drop i)
  len : tb.length = ks.length
  fresh : ∀ x ∈ L, tb.getD x.num.toNat false = false
  ord : ∀ x ∈ L, lk < x.key ∨ (lk = x.key ∧ ln ≤ x.num)

theorem Hs1.start {ks : List Int} {l : List (Thing Int)} (hl : Told ks l) {L : List (Thing Int)} (hp : L.Perm l) (hr : ∀ j, j < ks.length → (-9223372036854775808 : Int) ≤ ks.getD j 0) : Hs1 ks l 0 L (List.replicate ks.length false) (-9223372036854775808) (-1) := by
  refine ⟨hp, by simp, fun x hx => ?_, fun x hx => ?_⟩
  · rw [List.getD_eq_getElem?_getD, List.getElem?_replicate]
    split <;> rfl
  · obtain ⟨h0, h1, _, h3⟩ := hl.rng x (hp.mem_iff.1 hx)
    have := hr x.num.toNat (by omega)
    rw [h3]
    omega

theorem Hs1.next {ks : List Int} {l : List (Thing Int)} (hl : Told ks l) {i : Nat} {L : List (Thing Int)} {tb : List Bool} {lk ln : Int} (h : Hs1 ks l i L tb lk ln) (hi : i < l.length) {x : Thing Int} {L' : List (Thing Int)} (hf : FirstOf x L) (hp : L.Perm (x :: L')) :
    x = l[i] ∧ Hs1 ks l (i + 1) L' (tb.set x.num.toNat true) x.key x.num := by
  have hd : l.drop i = l[i] :: l.drop (i + 1) := List.drop_eq_getElem_cons hi
  have hsd : (l.drop i).Pairwise Thing.le := hl.srt.sublist (List.drop_sublist _ _)
  have hxm : x ∈ l.drop i := h.perm.mem_iff.1 hf.1
  have h1 : x.le l[i] := hf.2 _ (h.perm.mem_iff.2 (by rw [hd]; exact List.mem_cons_self))
  have h2 : l[i].le x := by
    rw [hd] at hxm hsd
    rcases List.mem_cons.1 hxm with rfl | hm
    · exact Thing.le_refl _
    · exact (List.pairwise_cons.1 hsd).1 x hm
  have hx : x = l[i] := by
    have ra := hl.rng x (List.mem_of_mem_drop hxm)
    have rb := hl.rng l[i] (List.getElem_mem hi)
    exact thing_same ra.2.2 rb.2.2 (by unfold Thing.le at h1 h2; omega)
  have hp' : L'.Perm (l.drop (i + 1)) := by
    have := hp.symm.trans h.perm
    rw [hd, ← hx] at this
    exact List.perm_cons _ |>.1 this
  have hm : ∀ y, y ∈ L' → y ∈ L := fun _ hy => hp.mem_iff.2 (List.mem_cons_of_mem _ hy)
  have hnd : x.num ∉ L'.map Thing.num := by
    have h3 : ((x :: L').map Thing.num).Nodup := by
      rw [((hp.symm.trans h.perm).map Thing.num).nodup_iff]
      exact hl.nd.sublist ((List.drop_sublist i l).map Thing.num)
    rw [List.map_cons, List.nodup_cons] at h3
    exact h3.1
  refine ⟨hx, hp', by rw [List.length_set]; exact h.len, fun y hy => ?_, fun y hy => hf.2 y (hm y hy)⟩
  have ry := hl.rng y (List.mem_of_mem_drop (hp'.mem_iff.1 hy))
  have rx := hl.rng x (List.mem_of_mem_drop hxm)
  rw [List.getD_eq_getElem?_getD, List.getElem?_set]
  by_cases e : x.num.toNat = y.num.toNat
  · exact absurd (List.mem_map.2 ⟨y, hy, by omega⟩) hnd
  · rw [if_neg e, ← List.getD_eq_getElem?_getD]
    exact h.fresh y (hm y hy)

theorem RowV.int1 {w : World} {e : TypeId} {v : Value} {l : List Int} (h : RowV w e 1 enc1 v l) {i : Nat} (hi : i < l.length) : ∃ g cap, v = .slice (some ⟨g, 0, none⟩) l.length cap ∧ g < w.heap.size ∧ w.cell? ⟨g, i, none⟩ = some (.int .i64 (l.getD i 0)) := by
  rcases h.form with ⟨_, e2⟩ | ⟨g, cap, rfl⟩
  · subst e2; simp at hi
  · have hr : RowAt w e 1 enc1 g cap l := h
    have := hr.cell enc1_len hi (j := 0) (by omega)
    simp only [Nat.mul_one, Nat.add_zero] at this
    refine ⟨g, cap, rfl, hr.lt, ?_⟩
    rw [this]
    simp [enc1, List.getD, hi]

/-- The worlds of the loop: the heap, the row of bools, and the two rows that were told. -/
structure HsW (w wr : World) (p : Nat) (S : Nat → Prop) (L : List (Thing Int)) (n : Int) (g cap : Nat) (tb : List Bool) (l : List (Thing Int)) (v1 v2 : Value) : Prop where
  tk : TkW w wr p S L n g cap tb
  r1 : RowV wr 2 1 enc1 v1 (l.map Thing.key)
  r2 : RowV wr 3 1 enc1 v2 (l.map Thing.v)
  f1 : ∀ b, v1.ownBlock = some b → ¬ S b ∧ b ≠ g
  f2 : ∀ b, v2.ownBlock = some b → ¬ S b ∧ b ≠ g

theorem HsW.move {w wr w' : World} {p : Nat} {S : Nat → Prop} {L L' l : List (Thing Int)} {n : Int} {g cap : Nat} {tb : List Bool} {v1 v2 : Value} (h : HsW w wr p S L n g cap tb l v1 v2) (hh : IsHeapI w' p S L' n) (hm : Moves S wr S w') : HsW w w' p S L' n g cap tb l v1 v2 :=
  ⟨h.tk.move hh hm, h.r1.at_block (fun b hb => hm.keeps.block b (World.ownsRow.lt h.r1 b hb).2 (h.f1 b hb).1), h.r2.at_block (fun b hb => hm.keeps.block b (World.ownsRow.lt h.r2 b hb).2 (h.f2 b hb).1), h.f1, h.f2⟩

theorem HsW.store {w wr : World} {p : Nat} {S : Nat → Prop} {L l : List (Thing Int)} {n : Int} {g cap : Nat} {tb : List Bool} {v1 v2 : Value} (h : HsW w wr p S L n g cap tb l v1 v2) {i : Nat} (hi : i < tb.length) (b : Bool) : HsW w (wr.setCell ⟨g, i, none⟩ (.bool b)) p S L n g cap (tb.set i b) l v1 v2 :=
  have k : Keeps (fun k => k = g) wr (wr.setCell ⟨g, i, none⟩ (.bool b)) := (Keeps.refl (fun k => k = g) wr).setCell (p := ⟨g, i, none⟩) (fun _ => rfl) _
  ⟨h.tk.store hi b, h.r1.at_block (fun b hb => k.block b (World.ownsRow.lt h.r1 b hb).2 (h.f1 b hb).2), h.r2.at_block (fun b hb => k.block b (World.ownsRow.lt h.r2 b hb).2 (h.f2 b hb).2), h.f1, h.f2⟩

theorem HsW.sl1 {w wr : World} {p : Nat} {S : Nat → Prop} {L l : List (Thing Int)} {n : Int} {g cap : Nat} {tb : List Bool} {a : Option Addr} {m c : Nat} {v2 : Value} (h : HsW w wr p S L n g cap tb l (.slice a m c) v2) {i : Nat} (hi : i < l.length) : ∃ g1, a = some ⟨g1, 0, none⟩ ∧ g1 < wr.heap.size ∧ ¬ S g1 ∧ wr.cell? ⟨g1, i, none⟩ = some (.int .i64 l[i].key) := by
  obtain ⟨g1, c1, e, hg, hc⟩ := h.r1.int1 (i := i) (by simpa using hi)
  cases e
  exact ⟨g1, rfl, hg, (h.f1 g1 rfl).1, by rw [hc]; simp [List.getD, hi]⟩

theorem HsW.sl2 {w wr : World} {p : Nat} {S : Nat → Prop} {L l : List (Thing Int)} {n : Int} {g cap : Nat} {tb : List Bool} {a : Option Addr} {m c : Nat} {v1 : Value} (h : HsW w wr p S L n g cap tb l v1 (.slice a m c)) {i : Nat} (hi : i < l.length) : ∃ g1, a = some ⟨g1, 0, none⟩ ∧ g1 < wr.heap.size ∧ ¬ S g1 ∧ wr.cell? ⟨g1, i, none⟩ = some (.int .i64 l[i].v) := by
  obtain ⟨g1, c1, e, hg, hc⟩ := h.r2.int1 (i := i) (by simpa using hi)
  cases e
  exact ⟨g1, rfl, hg, (h.f2 g1 rfl).1, by rw [hc]; simp [List.getD, hi]⟩

set_option maxRecDepth 100000 in
set_option maxHeartbeats 4000000 in
theorem sorts03_c (w : World) (v1 : Value) (ks : List Int) (hv1 : Ints w v1 ks)
    (hr : ∀ j, j < ks.length → (-9223372036854775808 : Int) ≤ ks.getD j 0) :
    Calls Try.prog 9 #[v1] w fun e w' => e = .returned (.bool true) ∧ Below w.heap.size w w' := by
  obtain ⟨a1, cap1, e1, _⟩ := id hv1
  subst e1
  go_enter Try.func9, Try.ntmps9
  go_wp2_with fail
  refine (awake03_c w).mono ?_
  rintro e w0 ⟨rfl, k0⟩
  by_cases b1 : (300 : Int) < ks.length
  · go_wp2_with fail
    go_ret
    exact ⟨by simp, k0.below (Nat.le_refl _) (fun _ x => x.elim)⟩
  go_wp2_with fail
  refine (filled03_c w0 _ ks (hv1.keep k0 (fun _ _ => id)) (by omega)).mono ?_
  rintro e w1 ⟨p, S, rfl, hh1, m1⟩
  have hup : ∀ k, S k → w.heap.size ≤ k := fun k hk => Nat.le_trans k0.size ((m1.foot k hk).resolve_left id)
  have hlt1 := hh1.lt
  have hfl : (filledL ks).length ≤ 1000000 := by simp [filledL]; omega
  have hall := fun w2 (k : Keeps NoBlk w1 w2) => allI_o w2 p S _ _ (hh1.keep k (fun _ _ x => x)) hfl
  go_wp2_with fail
  refine (keysI_o w1 p S _ _ hh1 hfl).mono ?_
  rintro e w2 ⟨at1, ct1, l1, rfl, hp1, hs1, hrow1, hfr1, k1⟩
  go_wp2_with fail
  refine (hall w2 k1).mono ?_
  rintro e w3 ⟨at2, ct2, l2, rfl, hp2, hs2, hrow2, hfr2, k2⟩
  have hT1 := told_of ks l1 hp1 hs1
  have hT2 := told_of ks l2 hp2 hs2
  have hll := hT2.same hT1 (hp2.trans hp1.symm)
  subst hll
  have k12 : Keeps NoBlk w1 w3 := k1.trans k2 (fun _ _ x => x)
  have hh3 := hh1.keep k12 (fun _ _ x => x)
  have hf1 : ∀ b, (Value.slice at1 ks.length ct1).ownBlock = some b → ¬ S b ∧ b ≠ w3.heap.size := fun b hb => by
    have hb1 : (Value.slice at1 l2.length ct1).ownBlock = some b := by rw [hT2.len]; exact hb
    have h1 := hfr1 b hb1
    have h2 := (World.ownsRow.lt hrow1 b (by rw [List.length_map]; exact hb1)).2
    have := k2.size
    exact ⟨fun x => by have := hlt1 b x; omega, by omega⟩
  have hf2 : ∀ b, (Value.slice at2 ks.length ct2).ownBlock = some b → ¬ S b ∧ b ≠ w3.heap.size := fun b hb => by
    have hb1 : (Value.slice at2 l2.length ct2).ownBlock = some b := by rw [hT2.len]; exact hb
    have h1 := hfr2 b hb1
    have h2 := (World.ownsRow.lt hrow2 b (by rw [List.length_map]; exact hb1)).2
    have := k1.size
    exact ⟨fun x => by have := hlt1 b x; omega, by omega⟩
  have hrow1' := hrow1.at_block (w' := w3) (fun b hb => k2.block b (World.ownsRow.lt hrow1 b hb).2 id)
  rw [List.length_map, hT2.len] at hrow1' hrow2
  rw [hT2.len]
  clear hrow1 hfr1 hfr2 hp2 hs1 hs2 hall hlt1
  obtain ⟨i3, e1, z1, g1⟩ := info_parts info_bool
  go_wp2_with (at_make; refine wpList_make_full _ (by rfl) (.tmp 30) (.tmp 30) 22 (by rfl) 0 4 i3 (.bool false) 1 Try.underlying22 e1 z1 g1.1 .i64 .i64 ks.length ks.length ks.length (by rfl) (by rfl) rfl rfl (by rw [g1.2]; omega) (by unfold maxLen; omega) (Nat.zero_le _) (fun w4 hown hgr => ?_))
  rw [Nat.mul_one] at hown
  have hrow0 : RowAt w4 4 1 encB w3.heap.size ks.length (List.replicate ks.length false) := by
    unfold RowAt RowV
    rw [← flat_false, Nat.mul_one, List.length_replicate]
    exact hown
  have k4 : Keeps NoBlk w3 w4 := (Keeps.refl NoBlk w3).grown hgr (fun _ e => by cases e)
  have hW0 : HsW w w4 p S (filledL ks) ks.length w3.heap.size ks.length (List.replicate ks.length false) l2 (.slice at1 ks.length ct1) (.slice at2 ks.length ct2) :=
    ⟨TkW.filled hh3 ⟨k0.trans (m1.keeps.trans k12 (fun _ _ x => x)) (fun _ _ x => x), fun k hk => .inr (hup k hk)⟩ hrow0 hgr,
     hrow1'.at_block (fun b hb => k4.block b (World.ownsRow.lt hrow1' b hb).2 id), hrow2.at_block (fun b hb => k4.block b (World.ownsRow.lt hrow2 b hb).2 id), hf1, hf2⟩
  have hI0 := Hs1.start hT2 hp1.symm hr
  generalize w3.heap.size = g at hW0 ⊢
  clear hown hrow0 hgr hh1 hh3 m1 e1 z1 g1 hf1 hf2 hrow1' hrow2 k4 k12 k1 k2 hp1 hfl
  go_wp2_with fail
  go_loopw [7, 8, 9] (fun kv nv iv wr => ∃ (i : Nat) (lk ln : Int) (L : List (Thing Int)) (tb : List Bool), kv = .int .i64 lk ∧ nv = .int .i64 ln ∧ iv = .int .i64 i ∧ i ≤ ks.length ∧ HsW w wr p S L ks.length g ks.length tb l2 (.slice at1 ks.length ct1) (.slice at2 ks.length ct2) ∧ Hs1 ks l2 i L tb lk ln) (fun _ _ iv _ => ks.length - (intOf iv).toNat)
  case atStart => exact ⟨0, _, _, filledL ks, _, rfl, rfl, rfl, Nat.zero_le _, hW0, hI0⟩
  case round =>
    obtain ⟨i, lk, ln, L, tb, rfl, rfl, rfl, hi, hW, hI⟩ := hrel
    clear hW0 hI0
    have i0 : (0 : Int) ≤ i := by omega
    have hpop := popI_o wr p S L _ hW.tk.hh
    by_cases hlt : (i : Int) < ks.length
    · have hil : i < l2.length := by rw [hT2.len]; omega
      obtain ⟨gA, rfl, hgA, hnA, cA⟩ := hW.sl1 hil
      obtain ⟨gB, rfl, hgB, hnB, cB⟩ := hW.sl2 hil
      go_wp2_with fail
      refine hpop.mono ?_
      rintro e w5 ⟨h5, m5⟩
      rcases h5 with ⟨h, _⟩ | ⟨x, L', hf, hp5, rfl, hh5⟩
      · have := hI.perm.length_eq
        rw [h, List.length_drop] at this
        simp at this
        omega
      obtain ⟨hx, hI5⟩ := hI.next hT2 hil hf hp5
      have hfx := hI.fresh x hf.1
      have hox := hI.ord x hf.1
      have rx := hT2.rng x (by rw [hx]; exact List.getElem_mem hil)
      rw [← hx] at cA cB
      obtain ⟨kx, nx, vx⟩ := x
      obtain ⟨x0, x1, x2, x3⟩ := rx
      simp only at x0 x1 x2 x3 hI5 hfx hox cA cB
      subst x2
      obtain ⟨n, rfl⟩ := Int.eq_ofNat_of_zero_le x0
      rw [Int.toNat_natCast] at x3 hI5 hfx
      have hW5 := hW.move hh5 m5
      have cA5 := (m5.keeps.cell (p := ⟨gA, i, none⟩) hgA hnA).trans cA
      have cB5 := (m5.keeps.cell (p := ⟨gB, i, none⟩) hgB hnB).trans cB
      have hn : n < ks.length := by omega
      have c8 := hW5.tk.row.bool (i := n) (by rw [hI.len]; exact hn)
      have f9 := hW5.tk.row.frozen n
      rw [hfx] at c8
      have hW6 := hW5.store (i := n) (by rw [hI.len]; exact hn) true
      obtain ⟨B1, o1, cap1', ev1, hB1, hc1⟩ := hv1.at (k := n) hn
      cases ev1
      have c1 := (hW5.tk.kp.cell (p := ⟨B1, o1 + n, none⟩) hB1 id).trans (hc1 n hn)
      rw [← x3] at c1
      clear hp5 hpop m5 hf hc1 x3 hx cA cB hfx hW5 hh5 hW hI
      rcases hox with ho | ⟨rfl, ho⟩
      · have ho2 : ¬ kx < lk := by omega
        have ho3 : ¬ kx = lk := by omega
        clear ho
        go_wp2_with fail
        go_roundw
        case rel => exact ⟨i + 1, kx, n, L', _, rfl, rfl, by go_num, by omega, hW6, hI5⟩
        case measure => simp [intOf]; omega
      · have ho2 : ¬ (n : Int) < ln := by omega
        clear ho
        go_wp2_with fail
        go_roundw
        case rel => exact ⟨i + 1, _, n, L', _, rfl, rfl, by go_num, by omega, hW6, hI5⟩
        case measure => simp [intOf]; omega
    · have hiL : L = [] := by
        have h1 := hI.perm.length_eq
        rw [List.length_drop, hT2.len] at h1
        exact List.length_eq_zero_iff.1 (by omega)
      subst hiL
      go_wp2_with fail
      refine hpop.mono ?_
      rintro e w5 ⟨h5, m5⟩
      rcases h5 with ⟨_, rfl, hh5⟩ | ⟨x, L', hf, _⟩
      · have hW5 := hW.move hh5 m5
        have hlen := lenI_o w5 p S [] _ hW5.tk.hh
        go_wp2_with fail
        refine hlen.mono ?_
        rintro e w6 ⟨rfl, rfl⟩
        go_wp2_with fail
        go_ret
        exact ⟨rfl, hW5.tk.kp.below (Nat.le_refl _) (fun _ x => x.elim)⟩
      · cases hf.1

end Go.Proofs.Ytofdcmbjcpfabaa
