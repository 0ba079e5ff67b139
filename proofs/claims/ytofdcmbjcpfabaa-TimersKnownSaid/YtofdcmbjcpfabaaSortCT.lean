/- Things in order: SortFunc, SortedFunc and Heap.sorted at Thing Tm. -/
import Derived.Test.YtofdcmbjcpfabaaSortBT
import Derived.Test.YtofdcmbjcpfabaaSortK
import Derived.Test.YtofdcmbjcpfabaaSortL
import Derived.Test.YtofdcmbjcpfabaaHeapInv
namespace Go.Proofs.Ytofdcmbjcpfabaa
open Go.RowKit Go.Shelf Go.Sort
attribute [local go_sem] Oper.semAt_some

def cfT (x y : Thing Tm) : Int := aheadI x.key x.num y.key y.num
theorem ltT_iff (x y : Thing Tm) : ltOf cfT x y = true ↔ (x.key < y.key ∨ (x.key = y.key ∧ x.num < y.num)) := Thing.lt_iff x y
theorem swoT : SWO (ltOf cfT) where
  irrefl x := by rw [Bool.eq_false_iff, ne_eq, ltT_iff]; omega
  trans x y z h1 h2 := by rw [ltT_iff] at *; omega
  ntrans x y z h1 h2 := by rw [Bool.eq_false_iff, ne_eq, ltT_iff] at *; omega

theorem oneT : ∀ x : Thing Tm, ∀ u ∈ encT x, u.oneCell' = true := fun x u hu => by
  simp [encT] at hu; rcases hu with rfl | rfl | rfl | rfl | rfl <;> rfl

theorem aheadT_agg (x y : Thing Tm) (W : World) : Calls Try.prog 177 (#[.agg (encT x).toArray, .agg (encT y).toArray] ++ #[]) W fun e w' => e = .returned (.int .i64 (cfT x y)) ∧ ∃ q os', w' = grow (W.drewN q) os' :=
  aheadT_c x y W

set_option maxHeartbeats 1000000 in
theorem sortFuncT_c (w : World) (g cap : Nat) (l : List (Thing Tm)) (h : RowAt w 212 5 encT g cap l) (hbig : l.length ≤ 1000000000) :
    Calls Try.prog 198 #[.slice (some ⟨g, 0, none⟩) l.length cap, .func (.func 177) #[] #[]] w fun e w' =>
      e = .returned (.tuple #[]) ∧ ∃ l', l'.Perm l ∧ l'.Pairwise Thing.le ∧ RowAt w' 212 5 encT g cap l' ∧ Keeps (fun k => k = g) w w' := by
  have hcon := AnyQ.slices_SortFunc (α := Thing Tm) sortLT 5 Try.isAgg212 Try.sizeOf212 encT encT_len oneT cfT swoT 177 #[] g 0 cap l.toArray w (enters_of Try.func177 (by kernel_rfl) rfl)
    (fun m os dk _ x y => aheadT_agg x y _) (holdsK_of_row encT_len h) h.lt (by simp; omega)
  refine hcon.mono ?_
  rintro e w' ⟨rfl, d', n, os, hp, hs, rfl⟩
  have h1 := permIn_whole hp
  have h2 := sortedIn_whole hp.1 hs
  refine ⟨rfl, d'.toList, by simpa using h1, h2.imp (fun {a b} hab => Thing.le_of_not_lt (x := b) (y := a) (by intro hc; rw [show ltOf cfT b a = Thing.lt b a from rfl, hc] at hab; cases hab)), ?_, keeps_sortedK _⟩
  have := h.sorted (n := n) (os := os) encT_len d'.toList (by have := h1.length_eq; simpa using this)
  simpa using this

/-- All things of l, in order, in a row of their own. -/
def OrderedT (w : World) (l : List (Thing Tm)) (e : Ending) (w' : World) : Prop :=
  ∃ a c l', e = .returned (.slice a l'.length c) ∧ l'.Perm l ∧ l'.Pairwise Thing.le ∧ RowV w' 212 5 encT (.slice a l'.length c) l' ∧ (∀ b, (Value.slice a l'.length c).ownBlock = some b → w.heap.size ≤ b) ∧ Keeps NoBlk w w'

set_option maxRecDepth 100000 in
set_option maxHeartbeats 2000000 in
theorem sortedFuncT_c (w : World) (Bs : Nat) (v : Value) (l : List (Thing Tm)) (hBs : Bs < w.heap.size) (hc : w.cell? ⟨Bs, 0, none⟩ = some v) (hrow : RowV w 212 5 encT v l) (hbig : l.length ≤ 1000000) :
    Calls Try.prog 178 #[.func (.func 199) #[] #[.pointer (some ⟨Bs, 0, none⟩)], .func (.func 177) #[] #[]] w (OrderedT w l) := by
  have hcol := callsIn_wide.1 (collectT_in 10 (by omega) 199 #[.pointer (some ⟨Bs, 0, none⟩)] (enters_of Try.func199 (by kernel_rfl) rfl) (fun ys => ys = l) (fun pre => pre <+: l) l.length hbig w
    (fun W0 hW0 => valT_stops 8 (by omega) Bs v l (by omega) w hBs hc w.heap.size (Nat.le_refl _) hrow (fun b hb => (World.ownsRow.lt hrow b hb).2) W0 hW0))
  clear hrow hc
  go_enter Try.func178, Try.ntmps178
  go_wp2_with fail
  refine hcol.mono ?_
  rintro e w1 ⟨v1, xs, rfl, rfl, hown, hb⟩
  have k1 := below_keeps0 hb
  rcases hown.2 with ⟨rfl, h0⟩ | ⟨g, cap, cur, rfl, hg, _⟩
  · obtain rfl : xs = [] := List.length_eq_zero_iff.1 h0
    have hs := fun W => AnyF.slices_SortFunc_none sortLT none 0 (.func (.func 177) #[] #[]) W
    have hs' : ∀ W, Calls Try.prog 198 #[.slice none 0 0, .func (.func 177) #[] #[]] W fun e w' => e = .returned (.tuple #[]) ∧ W = w' := fun W => (hs W).mono fun e w' h => ⟨h.1, h.2.symm⟩
    clear hs hown
    go_wp2_with fail
    refine (hs' _).mono ?_
    rintro e w2 ⟨rfl, rfl⟩
    go_wp2_with fail
    go_ret
    exact ⟨none, 0, [], rfl, List.Perm.refl _, List.Pairwise.nil, RowV.nil _ _ _ _, (fun b hb => by cases hb), k1⟩
  · have hrow : RowAt w1 212 5 encT g cap xs := ⟨hown.1, by
      rcases hown.2 with ⟨e, _⟩ | ⟨g', cap', cur', e, h1, h2⟩
      · cases e
      · exact .inr ⟨g', cap', cur', e, Nat.zero_le _, h2⟩⟩
    have hs := sortFuncT_c w1 g cap xs hrow (by omega)
    clear hown hrow
    go_wp2_with fail
    refine hs.mono ?_
    rintro e w2 ⟨rfl, l', hp, hord, hr2, k2⟩
    have hl : l'.length = xs.length := hp.length_eq
    go_wp2_with fail
    go_ret
    exact ⟨some ⟨g, 0, none⟩, cap, l', (by rw [hl]; rfl), hp, hord, hr2, (fun b hb => by cases hb; exact hg), k1.trans k2 (fun k hk e => by omega)⟩

set_option maxRecDepth 100000 in
set_option maxHeartbeats 2000000 in
theorem sortedT_raw (w : World) (p : Nat) (lv : Value) (l : List (Thing Tm)) (c1 : w.cell? ⟨p, 1, none⟩ = some lv) (hg : RowV w 212 5 encT lv l) (hbig : l.length ≤ 1000000) :
    Calls Try.prog 149 #[.pointer (some ⟨p, 0, none⟩)] w (OrderedT w l) := by
  obtain ⟨a, c, rfl⟩ : ∃ a c, lv = .slice a l.length c := by
    rcases hg.form with ⟨rfl, rfl⟩ | ⟨g, c, rfl⟩
    · exact ⟨none, 0, rfl⟩
    · exact ⟨_, c, rfl⟩
  have hsf : ∀ W, Hid (W = w.alloc (.cells #[.slice a l.length c] 213)) → Calls Try.prog 178 #[.func (.func 199) #[] #[.pointer (some ⟨w.heap.size, 0, none⟩)], .func (.func 177) #[] #[]] W (OrderedT w l) := fun W hW => by
    rw [hW.out]
    have hbox := Boxed.new w 213 (.slice a l.length c)
    have hk : Keeps NoBlk w (w.alloc (.cells #[.slice a l.length c] 213)) := (Keeps.refl _ _).alloc _
    refine (sortedFuncT_c _ w.heap.size _ l hbox.lt hbox.cell (hg.at_block (fun b hb => hk.block b (World.ownsRow.lt hg b hb).2 id)) hbig).mono ?_
    rintro e w' ⟨a', c', l', rfl, h1, h2, h3, h4, h5⟩
    exact ⟨a', c', l', rfl, h1, h2, h3, fun b hb => Nat.le_trans hk.size (h4 b hb), hk.trans h5 (fun _ _ x => x)⟩
  have hv := valuesT_c _ a l.length c rfl w
  clear hg
  go_enter Try.func149, Try.ntmps149
  go_wp2_with fail
  refine hv.mono ?_
  rintro e w1 ⟨rfl, hw1⟩
  go_wp2_with fail
  refine (hsf w1 hw1).mono ?_
  rintro e w2 ⟨a', c', l', rfl, h1⟩
  clear hsf hv
  go_wp2_with fail
  go_ret
  exact ⟨a', c', l', rfl, h1⟩

theorem sortedT_c (w : World) (p mb : Nat) (lv : Value) (s : HS Tm) (next : Int) (h : HMemT w p lv mb s next) (hbig : s.a.length ≤ 1000000) :
    Calls Try.prog 149 #[.pointer (some ⟨p, 0, none⟩)] w (OrderedT w s.a) := sortedT_raw w p lv s.a h.fields.2.1 h.hg hbig

end Go.Proofs.Ytofdcmbjcpfabaa
