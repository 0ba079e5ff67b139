/- slices.AppendSeq and Collect at Thing Tm: what the iterator gives, in a row of its own. -/
import Derived.Test.YtofdcmbjcpfabaaTmD
import Derived.Test.YtofdcmbjcpfabaaSortA0
import Derived.RangeFuncNested
import Derived.RangeFuncBox
import Derived.RangeFuncLeaves
import Derived.Shelf.Abstract
import Derived.OwnWalkIn
import Derived.TacticsInMore
import Derived.LoopNIn
import Derived.LoopIn
import Derived.Maps.AppendAt
namespace Go.Proofs.Ytofdcmbjcpfabaa
open Go.RowKit Go.Shelf
attribute [local go_sem] Oper.semAt_some

/-- One as one value. -/
def aggT (x : Thing Tm) : Value := .agg #[.int .i64 x.key, .int .i64 x.num, .int .i64 x.v.due, .string x.v.owner, .int .i64 x.v.id]

theorem infoST : (Try.prog.info? 212).map (fun i => (i.zero, i.size, i.bytes)) = some (some (.agg #[.int .i64 0, .int .i64 0, .int .i64 0, .string ⟨#[]⟩, .int .i64 0]), 5, 48) := by kernel_rfl

/-- Its cells lie at the head of block B. -/
def ElT (W : World) (B : Nat) (x : Thing Tm) : Prop := W.heap[B]? = some (.cells #[.int .i64 x.key, .int .i64 x.num, .int .i64 x.v.due, .string x.v.owner, .int .i64 x.v.id] 212 (0, 0))

theorem elT_own (x : Thing Tm) (B : Nat) : Own (fun (_ : Unit) W => ElT W B x) := fun _ X Y row hs hg hr => by
  refine (hg.block B (Array.getElem?_eq_some_iff.1 hs).1 (fun e' => ?_)).trans hs
  obtain ⟨o, ho, hc⟩ := hr B e'.symm
  rw [show X.heap[B]? = _ from hs] at ho; cases ho; cases hc

/-- Between two rounds: the box holds a slice that owns what has come. -/
def GotT (w W : World) (pre : List (Thing Tm)) : Prop := (∃ v, Boxed W w.heap.size 213 v ∧ W.ownsRow w.heap.size 212 5 v pre.length (pre.flatMap encT) ∧ True) ∧ Below w.heap.size w W

theorem gotT_own (w : World) (B : Nat) (hB : w.heap.size ≤ B) : OwnFrom B (fun pre W => GotT w W pre) :=
  OwnFrom.and (Own.from (holdsRow_own w.heap.size w.heap.size 213 212 5 (fun (pre : List (Thing Tm)) => pre.length) (fun pre => pre.flatMap encT) (fun _ _ => True)) _) (ownFrom_below (Nat.le_refl _) hB)

/-- The frame of AppendSeq in a round. -/
def frT (w : World) (g : Nat) (lb : Array Value) (x : Thing Tm) (Bx : Nat) : Act :=
  { tmps := #[.slice none 0 0, .func (.func g) #[] lb, .pointer (some ⟨w.heap.size, 0, none⟩), undef, .slice none 0 0, .pointer (some ⟨Bx, 0, none⟩), .func (.func g) #[] lb, .agg #[.int .i64 x.key, .int .i64 x.num, .int .i64 x.v.due, .string x.v.owner, .int .i64 x.v.id], undef, undef, undef, undef, undef], defers := [] }

/-- What AppendSeq leaves. -/
def SeqT (w : World) (S : List (Thing Tm) → Prop) (e : Ending) (w' : World) : Prop :=
  ∃ v xs, e = .returned v ∧ S xs ∧ w'.ownsRow w.heap.size 212 5 v xs.length (xs.flatMap encT) ∧ Below w.heap.size w w'

set_option maxRecDepth 100000 in
set_option maxHeartbeats 4000000 in
theorem appSeqT_in (n : Nat) (hn : 6 ≤ n) (g : Nat) (lb : Array Value) (eg : ∀ args w, (callFunc g args).run Try.prog w = .ok (.enter g args) w) (S Sp : List (Thing Tm) → Prop) (N : Nat) (hN : N ≤ 1000000) (w : World)
    (hseq : ∀ W, Below w.heap.size w W → SeqStopsK Fence.wide (n - 1) Try.prog g lb (fun x : Thing Tm => #[.agg #[.int .i64 x.key, .int .i64 x.num, .int .i64 x.v.due, .string x.v.owner, .int .i64 x.v.id]]) (Kp w.heap.size) S Sp N W) :
    CallsIn Fence.wide n Try.prog 214 #[.slice none 0 0, .func (.func g) #[] lb] w (SeqT w S) := by
  have h1 : 1 ≤ n := by omega
  obtain ⟨i0, hi, hz0, hz1, hz2⟩ := info_parts infoST
  refine callsIn_of_wp_marks Try.func214 rfl trivial ?_ rfl
  simp only [Try.ntmps214, List.size_toArray, List.length_cons, List.length_nil, Nat.reduceAdd, Nat.reduceSub, Array.replicate_succ, Array.replicate_zero, List.push_toArray, List.append_toArray, List.nil_append, List.cons_append]
  gi_wp2
  have hB0 : Below w.heap.size w (w.alloc (.cells #[.slice none 0 0] 213)) := (Below.refl _ w).alloc (Nat.le_refl _) _
  have bO := Boxed.new w 213 (.slice none 0 0)
  have hsz : (w.alloc (.cells #[.slice none 0 0] 213)).heap.size = w.heap.size + 1 := by simp
  have hseq' := hseq _ hB0
  clear hseq
  obtain ⟨W0, hW0⟩ : ∃ W0, w.alloc (.cells #[.slice none 0 0] 213) = W0 := ⟨_, rfl⟩
  rw [hW0] at hB0 bO hsz hseq' ⊢
  clear hW0
  refine wpIn_rangeFunc_ownH rfl h1 (gf := g) (lb := lb) rfl trivial eg hseq' Kp_t (Kp_b (by omega)) (Below.refl _ _) (fun _ => rfl)
    (fun pre W => GotT w W pre) (fun _ _ _ => False) (gotT_own w _ (by omega)) (fun _ _ _ _ _ hs _ _ => hs)
    ⟨⟨_, bO, World.ownsRow_nil _ _ _ _, trivial⟩, hB0⟩
    (fun x a' W => ∃ Bx, w.heap.size < Bx ∧ ElT W Bx x ∧ a' = frT w g lb x Bx) (fun x a' => ?ax) ?assign ?body ?done ?stop
  case ax =>
    rintro s X Y row ⟨Bx, hlt, hel, e⟩ hg hr
    exact ⟨Bx, hlt, (elT_own x Bx).from _ s X Y row hel hg hr, e⟩
  case assign =>
    rintro l pre x W K ⟨⟨v, hv, hrow, _⟩, hB⟩ hK
    gi_wp2
    refine hK _ _ ((KeepsOthers.alloc _ _).from _) ⟨(Below.refl _ W).alloc hB.size _, KeepsWalks.alloc _ _⟩ ⟨⟨v, hv.alloc _, hrow.alloc _, trivial⟩, hB.alloc hB.size _⟩ ⟨W.heap.size, hv.lt, World.alloc_heap_new W _, rfl⟩
  case body =>
    rintro l pre x a' W hl ⟨r, hr⟩ ⟨⟨v, hv, hrow, _⟩, hB⟩ ⟨Bx, hBx, hel, rfl⟩ hlt
    unfold frT
    have hc := hv.cell
    have hel' : W.heap[Bx]? = some (.cells #[.int .i64 x.key, .int .i64 x.num, .int .i64 x.v.due, .string x.v.owner, .int .i64 x.v.id] 212 (0, 0)) := hel
    have q0 : W.cell? ⟨Bx, 0, none⟩ = some (.int .i64 x.key) := by rw [cell_of_row _ _ _ _ _ _ hel']; rfl
    have q1 : W.cell? ⟨Bx, 1, none⟩ = some (.int .i64 x.num) := by rw [cell_of_row _ _ _ _ _ _ hel']; rfl
    have q2 : W.cell? ⟨Bx, 2, none⟩ = some (.int .i64 x.v.due) := by rw [cell_of_row _ _ _ _ _ _ hel']; rfl
    have q3 : W.cell? ⟨Bx, 3, none⟩ = some (.string x.v.owner) := by rw [cell_of_row _ _ _ _ _ _ hel']; rfl
    have q4 : W.cell? ⟨Bx, 4, none⟩ = some (.int .i64 x.v.id) := by rw [cell_of_row _ _ _ _ _ _ hel']; rfl
    gi_wp2_with (gi_at_builtin; refine wpListIn_append_own _ rfl _ _ 213 rfl w.heap.size 212 i0 (.agg #[.int .i64 0, .int .i64 0, .int .i64 0, .string ⟨#[]⟩, .int .i64 0]) 5 48 Try.underlying213 hi hz0 hz1 hz2 rfl (by decide) _ _ _ rfl (hrow.alloc _) ⟨W.heap.size, 0, none⟩ 1 1 [.int .i64 x.key, .int .i64 x.num, .int .i64 x.v.due, .string x.v.owner, .int .i64 x.v.id] rfl rfl (World.news_of_block (World.alloc_heap_new W (.cells #[.int .i64 x.key, .int .i64 x.num, .int .i64 x.v.due, .string x.v.owner, .int .i64 x.v.id] 212))) (by simp [Value.oneCell']) (by unfold maxLen; omega) (by omega) (by have := hB.size; simp; omega) ?_; intro v' w1 hown' hgrow _; obtain ⟨g', cap', rfl⟩ := ownsRow_succ hown'; obtain ⟨hv1, hv2, hr2, hk2, hb2⟩ := hv.appended (by decide) hrow hB.size (Nat.le_refl _) hown' hgrow; have hc1 := hv1.cell; have hf1 := hv1.frozen)
    exact ⟨hk2.from _, ⟨hb2, hk2.walks⟩, ⟨_, hv2, by simpa [List.flatMap_append, encT] using hr2, trivial⟩, hB.trans hb2⟩
  case done =>
    rintro D ys W hD hS ⟨⟨v, hv, hrow, _⟩, hB⟩ hK
    have hc := hv.cell
    gi_wp2
    refine ⟨by simp, .inl ⟨_, _, rfl, run_takeDeferred hK, ?_⟩⟩
    exact ⟨_, results_tmp rfl _ _ _, v, ys, rfl, hS, ownsRow_putObj hrow _ hK rfl, hB.trans (belowK_b (w := w) (Nat.le_refl _) W D _ _ (by omega) hK rfl rfl)⟩
  case stop =>
    rintro D c pre W _ _ h _
    exact h.elim

set_option maxRecDepth 100000 in
set_option maxHeartbeats 1000000 in
theorem collectT_in (n : Nat) (hn : 7 ≤ n) (g : Nat) (lb : Array Value) (eg : ∀ args w, (callFunc g args).run Try.prog w = .ok (.enter g args) w) (S Sp : List (Thing Tm) → Prop) (N : Nat) (hN : N ≤ 1000000) (w : World)
    (hseq : ∀ W, Below w.heap.size w W → SeqStopsK Fence.wide (n - 1 - 1) Try.prog g lb (fun x : Thing Tm => #[.agg #[.int .i64 x.key, .int .i64 x.num, .int .i64 x.v.due, .string x.v.owner, .int .i64 x.v.id]]) (Kp w.heap.size) S Sp N W) :
    CallsIn Fence.wide n Try.prog 197 #[.func (.func g) #[] lb] w (SeqT w S) := by
  have hc := appSeqT_in (n - 1) (by omega) g lb eg S Sp N hN w hseq
  clear hseq
  refine callsIn_of_wp Try.func197 rfl trivial ?_ rfl
  simp only [Try.ntmps197, List.size_toArray, List.length_cons, List.length_nil, Nat.reduceAdd, Nat.reduceSub, Array.replicate_succ, Array.replicate_zero, List.push_toArray, List.append_toArray, List.nil_append, List.cons_append]
  gi_wp2_with fail
  refine ⟨trivial, (fun h => by cases h), hc.mono ?_⟩
  rintro e w' ⟨v, xs, rfl, h1, h2, h3⟩
  gi_wp2_with fail
  go_ret
  exact ⟨v, xs, rfl, h1, h2, h3⟩

end Go.Proofs.Ytofdcmbjcpfabaa
