/- Things in order: SortFunc, SortedFunc and Heap.sorted at Thing Int. -/
import Derived.Test.YtofdcmbjcpfabaaSortBI
import Derived.Test.YtofdcmbjcpfabaaSortK
import Derived.Test.YtofdcmbjcpfabaaSortL
import Derived.Test.YtofdcmbjcpfabaaHeapInv
namespace Go.Proofs.Ytofdcmbjcpfabaa
open Go.RowKit Go.Shelf Go.Sort
attribute [local go_sem] Oper.semAt_some

def cfI (x y : Thing Int) : Int := aheadI x.key x.num y.key y.num
theorem ltI_iff (x y : Thing Int) : ltOf cfI x y = true ↔ (x.key < y.key ∨ (x.key = y.key ∧ x.num < y.num)) := Thing.lt_iff x y
theorem swoI : SWO (ltOf cfI) where
  irrefl x := by rw [Bool.eq_false_iff, ne_eq, ltI_iff]; omega
  trans x y z h1 h2 := by rw [ltI_iff] at *; omega
  ntrans x y z h1 h2 := by rw [Bool.eq_false_iff, ne_eq, ltI_iff] at *; omega

theorem oneI : ∀ x : Thing Int, ∀ u ∈ encI x, u.oneCell' = true := fun x u hu => by
  simp [encI] at hu; rcases hu with rfl | rfl | rfl <;> rfl

theorem aheadI_agg (x y : Thing Int) (W : World) : Calls Try.prog 140 (#[.agg (encI x).toArray, .agg (encI y).toArray] ++ #[]) W fun e w' => e = .returned (.int .i64 (cfI x y)) ∧ ∃ q os', w' = grow (W.drewN q) os' :=
  aheadI_c x y W

set_option maxHeartbeats 1000000 in
theorem sortFuncI_c (w : World) (g cap : Nat) (l : List (Thing Int)) (h : RowAt w 161 3 encI g cap l) (hbig : l.length ≤ 1000000000) :
    Calls Try.prog 175 #[.slice (some ⟨g, 0, none⟩) l.length cap, .func (.func 140) #[] #[]] w fun e w' =>
      e = .returned (.tuple #[]) ∧ ∃ l', l'.Perm l ∧ l'.Pairwise Thing.le ∧ RowAt w' 161 3 encI g cap l' ∧ Keeps (fun k => k = g) w w' := by
  have hcon := AnyQ.slices_SortFunc (α := Thing Int) sortLI 3 Try.isAgg161 Try.sizeOf161 encI encI_len oneI cfI swoI 140 #[] g 0 cap l.toArray w (enters_of Try.func140 (by kernel_rfl) rfl)
    (fun m os dk _ x y => aheadI_agg x y _) (holdsK_of_row encI_len h) h.lt (by simp; omega)
  refine hcon.mono ?_
  rintro e w' ⟨rfl, d', n, os, hp, hs, rfl⟩
  have h1 := permIn_whole hp
  have h2 := sortedIn_whole hp.1 hs
  refine ⟨rfl, d'.toList, by simpa using h1, h2.imp (fun {a b} hab => Thing.le_of_not_lt (x := b) (y := a) (by intro hc; rw [show ltOf cfI b a = Thing.lt b a from rfl, hc] at hab; cases hab)), ?_, keeps_sortedK _⟩
  have := h.sorted (n := n) (os := os) encI_len d'.toList (by have := h1.length_eq; simpa using this)
  simpa using this

/-- All things of l, in order, in a row of their own. -/
def OrderedI (w : World) (l : List (Thing Int)) (e : Ending) (w' : World) : Prop :=
  ∃ a c l', e = .returned (.slice a l'.length c) ∧ l'.Perm l ∧ l'.Pairwise Thing.le ∧ RowV w' 161 3 encI (.slice a l'.length c) l' ∧ (∀ b, (Value.slice a l'.length c).ownBlock = some b → w.heap.size ≤ b) ∧ Keeps NoBlk w w'

set_option maxRecDepth 100000 in
set_option maxHeartbeats 2000000 in
theorem sortedFuncI_c (w : World) (Bs : Nat) (v : Value) (l : List (Thing Int)) (hBs : Bs < w.heap.size) (hc : w.cell? ⟨Bs, 0, none⟩ = some v) (hrow : RowV w 161 3 encI v l) (hbig : l.length ≤ 1000000) :
    Calls Try.prog 145 #[.func (.func 176) #[] #[.pointer (some ⟨Bs, 0, none⟩)], .func (.func 140) #[] #[]] w (OrderedI w l) := by
  have hcol := callsIn_wide.1 (collectI_in 10 (by omega) 176 #[.pointer (some ⟨Bs, 0, none⟩)] (enters_of Try.func176 (by kernel_rfl) rfl) (fun ys => ys = l) (fun pre => pre <+: l) l.length hbig w
    (fun W0 hW0 => valI_stops 8 (by omega) Bs v l (by omega) w hBs hc w.heap.size (Nat.le_refl _) hrow (fun b hb => (World.ownsRow.lt hrow b hb).2) W0 hW0))
  clear hrow hc
  go_enter Try.func145, Try.ntmps145
  go_wp2_with fail
  refine hcol.mono ?_
  rintro e w1 ⟨v1, xs, rfl, rfl, hown, hb⟩
  have k1 := below_keeps0 hb
  rcases hown.2 with ⟨rfl, h0⟩ | ⟨g, cap, cur, rfl, hg, _⟩
  · obtain rfl : xs = [] := List.length_eq_zero_iff.1 h0
    have hs := fun W => AnyF.slices_SortFunc_none sortLI none 0 (.func (.func 140) #[] #[]) W
    have hs' : ∀ W, Calls Try.prog 175 #[.slice none 0 0, .func (.func 140) #[] #[]] W fun e w' => e = .returned (.tuple #[]) ∧ W = w' := fun W => (hs W).mono fun e w' h => ⟨h.1, h.2.symm⟩
    clear hs hown
    go_wp2_with fail
    refine (hs' _).mono ?_
    rintro e w2 ⟨rfl, rfl⟩
    go_wp2_with fail
    go_ret
    exact ⟨none, 0, [], rfl, List.Perm.refl _, List.Pairwise.nil, RowV.nil _ _ _ _, (fun b hb => by cases hb), k1⟩
  · have hrow : RowAt w1 161 3 encI g cap xs := ⟨hown.1, by
      rcases hown.2 with ⟨e, _⟩ | ⟨g', cap', cur', e, h1, h2⟩
      · cases e
      · exact .inr ⟨g', cap', cur', e, Nat.zero_le _, h2⟩⟩
    have hs := sortFuncI_c w1 g cap xs hrow (by omega)
    clear hown hrow
    go_wp2_with fail
    refine hs.mono ?_
    rintro e w2 ⟨rfl, l', hp, hord, hr2, k2⟩
    have hl : l'.length = xs.length := hp.length_eq
    go_wp2_with fail
    go_ret
    exact ⟨some ⟨g, 0, none⟩, cap, l', (by rw [hl]; rfl), hp, hord, hr2, (fun b hb => by cases hb; exact hg), k1.trans k2 (fun k hk e => by omega)⟩

set_option maxRecDepth 100000 in
set_option maxHeartbeats 2000000 in
theorem sortedI_raw (w : World) (p : Nat) (lv : Value) (l : List (Thing Int)) (c1 : w.cell? ⟨p, 1, none⟩ = some lv) (hg : RowV w 161 3 encI lv l) (hbig : l.length ≤ 1000000) :
    Calls Try.prog 104 #[.pointer (some ⟨p, 0, none⟩)] w (OrderedI w l) := by
  obtain ⟨a, c, rfl⟩ : ∃ a c, lv = .slice a l.length c := by
    rcases hg.form with ⟨rfl, rfl⟩ | ⟨g, c, rfl⟩
    · exact ⟨none, 0, rfl⟩
    · exact ⟨_, c, rfl⟩
  have hsf : ∀ W, Hid (W = w.alloc (.cells #[.slice a l.length c] 99)) → Calls Try.prog 145 #[.func (.func 176) #[] #[.pointer (some ⟨w.heap.size, 0, none⟩)], .func (.func 140) #[] #[]] W (OrderedI w l) := fun W hW => by
    rw [hW.out]
    have hbox := Boxed.new w 99 (.slice a l.length c)
    have hk : Keeps NoBlk w (w.alloc (.cells #[.slice a l.length c] 99)) := (Keeps.refl _ _).alloc _
    refine (sortedFuncI_c _ w.heap.size _ l hbox.lt hbox.cell (hg.at_block (fun b hb => hk.block b (World.ownsRow.lt hg b hb).2 id)) hbig).mono ?_
    rintro e w' ⟨a', c', l', rfl, h1, h2, h3, h4, h5⟩
    exact ⟨a', c', l', rfl, h1, h2, h3, fun b hb => Nat.le_trans hk.size (h4 b hb), hk.trans h5 (fun _ _ x => x)⟩
  have hv := valuesI_c _ a l.length c rfl w
  clear hg
  go_enter Try.func104, Try.ntmps104
  go_wp2_with fail
  refine hv.mono ?_
  rintro e w1 ⟨rfl, hw1⟩
  go_wp2_with fail
  refine (hsf w1 hw1).mono ?_
  rintro e w2 ⟨a', c', l', rfl, h1⟩
  clear hsf hv
  go_wp2_with fail
  go_ret
  exact ⟨a', c', l', rfl, h1⟩

theorem sortedI_c (w : World) (p mb : Nat) (lv : Value) (s : HS Int) (next : Int) (h : HMemI w p lv mb s next) (hbig : s.a.length ≤ 1000000) :
    Calls Try.prog 104 #[.pointer (some ⟨p, 0, none⟩)] w (OrderedI w s.a) := sortedI_raw w p lv s.a h.fields.2.1 h.hg hbig

end Go.Proofs.Ytofdcmbjcpfabaa
