/- Queues of tasks: Poll. -/
import Derived.Test.YtofdcmbjcpfabaaQDel
import Derived.Shelf.Abstract
namespace Go.Proofs.Ytofdcmbjcpfabaa
open Go.RowKit Go.Maps Go.MapKept Go.ChangeMaps
attribute [local go_sem ↓] Go.wp_at_zero Go.wp_at_succ

/-- What the calls need to know of a queue. -/
structure QOk (q : QS) : Prop where
  n0 : 0 < q.next
  n1 : q.next ≤ 9000000000000000000
  big : q.waits.length ≤ 1000000
  g : I64 q.grace
  m : I64 q.most
  w : ∀ t ∈ q.waits, t.key.size ≤ maxLen ∧ I64 t.ready ∧ I64 t.att ∧ t.att ≤ 9000000000000000000
  o : ∀ k x, q.outs k = some x → x.tok = k ∧ x.t.key.size ≤ maxLen ∧ I64 k ∧ I64 x.t.att ∧ I64 x.till ∧ x.t.att ≤ 9000000000000000000

/-- The queue behind a Poll that hands out the i-th of those that wait. -/
def QS.hand (q : QS) (i : Nat) (t : Task) (who : ByteArray) (till : Int) : QS :=
  { q with waits := q.waits.eraseIdx i, next := q.next + 1, outs := fput q.outs q.next ⟨{ t with att := t.att + 1 }, q.next, who, till⟩, there := fput q.there t.key q.next }

theorem i64_wf {x : Int} (h : I64 x) : (Lit.int .i64 x).wf = true := WalkArith.wf_i64 h

theorem name_calls {P : Program} {f : FuncId} {args : Array Value} {Q : Ending → World → Prop} {w : World} (h : ∀ w1, w1 = w → Calls P f args w1 Q) : Calls P f args w Q := h w rfl

theorem makeFunc_run (fn : Fn) (first cap : Array Value) (w : World) : (Instr.makeFunc fn first cap).run Try.prog w = .ok (.func fn first cap) w := rfl

/-- A block of one cell. -/
def CellAt (w : World) (B : Nat) (v : Value) (t : TypeId) : Prop := w.heap[B]? = some (.cells #[v] t (0, 0))
theorem CellAt.cell {w : World} {B : Nat} {v : Value} {t : TypeId} (h : CellAt w B v t) : w.cell? ⟨B, 0, none⟩ = some v := by rw [cell_of_row _ _ _ _ _ _ h]; rfl
theorem CellAt.frozen {w : World} {B : Nat} {v : Value} {t : TypeId} (h : CellAt w B v t) : w.frozen? ⟨B, 0, none⟩ = false := frozen_of_row _ _ _ _ _ h

/-- The three boxes that Poll makes. -/
structure PollBox (w w1 : World) (B p : Nat) (who : ByteArray) (now : Int) : Prop where
  gr : Gr w w1
  size : w1.heap.size = B + 3
  q : CellAt w1 B (.pointer (some ⟨p, 0, none⟩)) 24
  w : CellAt w1 (B + 1) (.string who) 9
  n : CellAt w1 (B + 1 + 1) (.int .i64 now) 2

theorem PollBox.of (w : World) (p : Nat) (who : ByteArray) (now : Int) :
    PollBox w (((w.alloc (.cells #[.pointer (some ⟨p, 0, none⟩)] 24)).alloc (.cells #[.string who] 9)).alloc (.cells #[.int .i64 now] 2)) w.heap.size p who now := by
  refine ⟨(((Gr.refl w).alloc _).alloc _).alloc _, by simp, ?_, ?_, ?_⟩
  · unfold CellAt; rw [Below.heap_alloc _ _ _ (by simp; omega), Below.heap_alloc _ _ _ (by simp)]; exact heap_alloc_new _ _
  · unfold CellAt
    rw [Below.heap_alloc _ _ _ (by simp)]
    have := heap_alloc_new (w.alloc (.cells #[.pointer (some ⟨p, 0, none⟩)] 24)) (.cells #[.string who] 9)
    simpa using this
  · unfold CellAt
    have := heap_alloc_new ((w.alloc (.cells #[.pointer (some ⟨p, 0, none⟩)] 24)).alloc (.cells #[.string who] 9)) (.cells #[.int .i64 now] 2)
    simpa using this

theorem poll_idx {w w1 : World} {B p mo mt : Nat} {la : Option Addr} {lc : Nat} {q : QS} {who : ByteArray} {now : Int} (hb : PollBox w w1 B p who now) (h1 : QRaw w1 p (.slice la q.waits.length lc) mo mt q) (hq : QOk q) :
    Calls Try.prog 80 #[.slice la q.waits.length lc, .func (.func 81) #[] #[.pointer (some ⟨B, 0, none⟩), .pointer (some ⟨B + 1, 0, none⟩), .pointer (some ⟨B + 1 + 1, 0, none⟩)]] w1 fun e w' =>
      e = .returned (.int .i64 (idxI (fun t => forB q.grace t who now) q.waits)) ∧ Gr w1 w' := by
  refine indexFunc_c w1 la lc q.waits h1.hl 81 _ (enters_of Try.func81 (by kernel_rfl) rfl) _ (fun W t ht hg => ?_) (by have := hq.big; omega)
  have hs := hb.size
  have hW := hg.keeps.size
  obtain ⟨_, c1, _⟩ := h1.fields
  exact pollFn_c W p B (B + 1) (B + 1 + 1) q.grace t who now (Nat.lt_of_lt_of_le h1.lt.1 hW) ((hg.keeps.cell (p := ⟨p, 1, none⟩) h1.lt.1 id).trans c1) hq.g (hq.w t ht).2.1 (by omega) (by omega) (by omega)
    ((hg.keeps.cell (p := ⟨B, 0, none⟩) (by show B < _; omega) id).trans hb.q.cell) ((hg.keeps.cell (p := ⟨B + 1, 0, none⟩) (by show B + 1 < _; omega) id).trans hb.w.cell) ((hg.keeps.cell (p := ⟨B + 1 + 1, 0, none⟩) (by show B + 1 + 1 < _; omega) id).trans hb.n.cell)

set_option maxRecDepth 100000 in
set_option maxHeartbeats 4000000 in
theorem pollNone_c (w : World) (p mo mt : Nat) (lv : Value) (q : QS) (h : QRaw w p lv mo mt q) (hq : QOk q) (who : ByteArray) (now lease : Int) (hl : 1 ≤ lease) (hi : idxI (fun t => forB q.grace t who now) q.waits = -1) :
    Calls Try.prog 22 #[.pointer (some ⟨p, 0, none⟩), .string who, .int .i64 now, .int .i64 lease] w fun e w' =>
      e = .returned (.tuple #[.string ⟨#[]⟩, .int .i64 0, .int .i64 0, .int .i64 5]) ∧ Gr w w' := by
  obtain ⟨la, lc, rfl⟩ := h.len
  have hb := PollBox.of w p who now
  have hpl := h.lt.1
  obtain ⟨B, hB⟩ : ∃ B, w.heap.size = B := ⟨_, rfl⟩
  have hmf := makeFunc_run
  go_enter Try.func22, Try.ntmps22
  go_wp2_with fail
  refine name_calls ?_
  intro w1 hw1
  rw [← hw1] at hb
  rw [hB] at hb
  clear hw1
  have h1 := h.keep0 hb.gr.keeps
  have cq := hb.q.cell
  refine (qmade_c w1 p mo mt _ q h1 hq.n0).mono ?_
  rintro e w2 ⟨rfl, rfl⟩
  have hidx := poll_idx hb h1 hq
  rw [hi] at hidx
  obtain ⟨_, _, _, c3, _⟩ := h1.fields
  clear hi
  go_wp2_with fail
  refine hidx.mono ?_
  rintro e w2 ⟨rfl, hg2⟩
  go_wp2_with fail
  refine bodyPost_ret (v := .tuple #[.string ⟨#[]⟩, .int .i64 0, .int .i64 0, .int .i64 5]) (by simp [results, go_sem]) rfl ?_
  exact ⟨rfl, hb.gr.trans hg2⟩

theorem QOk.hand {q : QS} (hq : QOk q) {i : Nat} {t : Task} (ht : t ∈ q.waits) {who : ByteArray} {till : Int} (hn : q.next < 9000000000000000000) (hti : I64 till) (ha : t.att < 9000000000000000000) : QOk (q.hand i t who till) := by
  refine ⟨?_, ?_, ?_, hq.g, hq.m, fun x hx => hq.w x ((List.eraseIdx_sublist _ _).subset hx), fun k x hx => ?_⟩
  · have := hq.n0; show 0 < q.next + 1; omega
  · show q.next + 1 ≤ _; omega
  · exact Nat.le_trans (List.eraseIdx_sublist _ _).length_le hq.big
  · have hx' : fput q.outs q.next ⟨{ t with att := t.att + 1 }, q.next, who, till⟩ k = some x := hx
    by_cases e : k = q.next
    · subst e
      rw [fput_same] at hx'
      cases hx'
      have h0 := hq.n0
      have ht2 := (hq.w t ht)
      refine ⟨rfl, ht2.1, ⟨by omega, by omega⟩, ⟨?_, ?_⟩, hti, ?_⟩
      · have := ht2.2.2.1.1; show _ ≤ t.att + 1; omega
      · show t.att + 1 ≤ _; omega
      · show t.att + 1 ≤ _; omega
    · rw [fput_other _ _ e] at hx'
      exact hq.o k x hx'

set_option maxRecDepth 100000 in
set_option maxHeartbeats 8000000 in
theorem pollHit_c (w : World) (p mo mt : Nat) (lv : Value) (q : QS) (h : QRaw w p lv mo mt q) (hq : QOk q) (who : ByteArray) (now lease : Int) (hl : 1 ≤ lease) (hl2 : lease ≤ 9223372036854775807) (hnow : I64 now) (i : Nat) (t : Task) (hti : q.waits[i]? = some t) (hi : idxI (fun t => forB q.grace t who now) q.waits = i)
    (hnx : q.next < 9000000000000000000) (hat : t.att < 9000000000000000000) :
    Calls Try.prog 22 #[.pointer (some ⟨p, 0, none⟩), .string who, .int .i64 now, .int .i64 lease] w fun e w' =>
      e = .returned (.tuple #[.string t.key, .int .i64 q.next, .int .i64 (t.att + 1), .int .i64 0]) ∧ ∃ lv', QRaw w' p lv' mo mt (q.hand i t who (addI now lease)) ∧ (∀ k, lv'.ownBlock = some k → lv.ownBlock = some k) ∧ Keeps (QFoot p lv mo mt) w w' := by
  obtain ⟨hil, htt⟩ := List.getElem?_eq_some_iff.1 hti
  obtain ⟨g, lc, rfl⟩ : ∃ g cap, lv = .slice (some ⟨g, 0, none⟩) q.waits.length cap := by
    rcases h.hl.form with ⟨_, e⟩ | hx
    · rw [e] at hil; simp at hil
    · exact hx
  have hb := PollBox.of w p who now
  have hpl := h.lt.1
  obtain ⟨B, hB⟩ : ∃ B, w.heap.size = B := ⟨_, rfl⟩
  obtain ⟨npo, npt, nl⟩ := h.ne
  obtain ⟨ngp, ngo, ngt⟩ := nl g rfl
  have hgl := h.lt.2.1 g rfl
  have hmol := h.lt.2.2.1
  have hmtl := h.lt.2.2.2
  have hmf := makeFunc_run
  have hn0 := hq.n0
  have htm : t ∈ q.waits := List.mem_of_getElem? hti
  obtain ⟨tk, tr, ta, ta2⟩ := hq.w t htm
  go_enter Try.func22, Try.ntmps22
  go_wp2_with fail
  refine name_calls ?_
  intro w1 hw1
  rw [← hw1] at hb
  rw [hB] at hb
  clear hw1
  have h1 := h.keep0 hb.gr.keeps
  have cq := hb.q.cell
  refine (qmade_c w1 p mo mt _ q h1 hq.n0).mono ?_
  rintro e w2 ⟨rfl, rfl⟩
  have hidx := poll_idx hb h1 hq
  rw [hi] at hidx
  obtain ⟨_, _, _, c3, _⟩ := h1.fields
  have hi' : Hid (q.waits[i]? = some t) := hti
  have i0 : (0 : Int) ≤ i := by omega
  have i1 : (i : Int) < q.waits.length := by omega
  clear hi hti
  go_wp2_with fail
  refine hidx.mono ?_
  rintro e w2 ⟨rfl, hg2⟩
  have h2 := h1.keep0 hg2.keeps
  have kb : ∀ {b v ty}, b < B + 3 → CellAt w1 b v ty → CellAt w2 b v ty := fun hb' hc => (hg2.keeps.block _ (by rw [hb.size]; exact hb') id).trans hc
  have q2 := kb (by omega) hb.q
  have w2' := kb (by omega) hb.w
  have n2 := kb (by omega) hb.n
  have hsz2 : B + 3 ≤ w2.heap.size := by have := hg2.keeps.size; rw [hb.size] at this; exact this
  have k2 : Keeps NoBlk w w2 := hb.gr.keeps.trans hg2.keeps (fun _ _ x => x)
  have hr2 : RowAt w2 142 4 encTask g lc q.waits := h2.hl
  have r0 := hr2.cell encTask_len hil (j := 0) (by omega)
  have r1 := hr2.cell encTask_len hil (j := 1) (by omega)
  have r2 := hr2.cell encTask_len hil (j := 2) (by omega)
  have r3 := hr2.cell encTask_len hil (j := 3) (by omega)
  rw [htt] at r0 r1 r2 r3
  have r0' : w2.cell? ⟨g, i * 4, none⟩ = some (.string t.key) := r0
  have r1' : w2.cell? ⟨g, i * 4 + 1, none⟩ = some (.string t.sticky) := r1
  have r2' : w2.cell? ⟨g, i * 4 + 2, none⟩ = some (.int .i64 t.ready) := r2
  have r3' : w2.cell? ⟨g, i * 4 + 3, none⟩ = some (.int .i64 t.att) := r3
  obtain ⟨_, _, _, x3, _⟩ := h2.fields
  have y0 := q2.cell
  obtain ⟨C, hC⟩ : ∃ C, w2.heap.size = C := ⟨_, rfl⟩
  clear hidx r0 r1 r2 r3 c3 cq htt
  go_wp2_with fail
  refine name_world ?_
  intro w3 hw3
  have k3 : Keeps NoBlk w2 w3 := by subst hw3; exact (Keeps.refl _ _).alloc _
  have h3 := h2.keep0 k3
  have t3 : TaskAt w3 C t := by subst hw3 hC; exact heap_alloc_new _ _
  have hsz3 : w3.heap.size = C + 1 := by subst hw3 hC; simp
  have hBC : B + 3 ≤ C := by omega
  have kb3 : ∀ {b v ty}, b < B + 3 → CellAt w2 b v ty → CellAt w3 b v ty := fun hb' hc => (k3.block _ (by omega) id).trans hc
  have q3 := kb3 (by omega) q2
  have w3' := kb3 (by omega) w2'
  have n3 := kb3 (by omega) n2
  have hr3 : RowAt w3 142 4 encTask g lc q.waits := h3.hl
  have hdel : ∀ W : World, W.heap = w3.heap → RowAt W 142 4 encTask g lc q.waits := fun W e => hr3.at_block (by rw [e])
  obtain ⟨_, _, _, z3, _⟩ := h3.fields
  have zq := q3.cell
  have zf := h3.frozen 3
  have hwi : IntKind.i64.wrap ((i : Int) + 1) = (i : Int) + 1 := w64 (by have := hq.big; omega)
  have keepS : ∀ w' : World, w'.heap[B]? = w3.heap[B]? → w'.heap[p]? = w3.heap[p]? → w'.cell? ⟨B, 0, none⟩ = some (.pointer (some ⟨p, 0, none⟩)) ∧ w'.cell? ⟨p, 3, none⟩ = some (.slice (some ⟨g, 0, none⟩) q.waits.length lc) := fun w' e e' =>
    ⟨(World.cell?_of_block (a := ⟨B, 0, none⟩) e).trans zq, (World.cell?_of_block (a := ⟨p, 3, none⟩) e').trans z3⟩
  have ngB : ¬ B = g := by omega
  have hpg : ¬ p = g := fun e => ngp e.symm
  have hBl3 : B < w3.heap.size := by omega
  have hpl3 : p < w3.heap.size := by omega
  clear hw3 hC r0' r1' r2' r3' x3 y0 kb kb3
  go_region_law (first | (go_simp; go_at_call 83; refine (delete_c w3.drew g lc q.waits (hdel w3.drew rfl) i hil (by have := hq.big; omega)).mono ?_; rintro e w4 ⟨rfl, hr4, hkd⟩; have xf4 := (World.frozen?_of_block (a := ⟨p, 3, none⟩) (hkd.block p hpl3 hpg)).trans zf; have xc4 := (World.cell?_of_block (a := ⟨p, 3, none⟩) (hkd.block p hpl3 hpg)).trans z3; have xB4 := (World.cell?_of_block (a := ⟨B, 0, none⟩) (hkd.block B hBl3 ngB)).trans zq))
  all_goals
    generalize hw5 : w4.setCell ⟨p, 3, none⟩ (.slice (some ⟨g, 0, none⟩) (q.waits.length - 1) lc) = w5
    have b5 : ∀ k, k < C + 1 → k ≠ g → k ≠ p → w5.heap[k]? = w3.heap[k]? := fun k hk h1 h2 => by subst hw5; exact (Below.heap_setCell _ _ _ _ h2).trans (hkd.block k (by show k < w3.heap.size; omega) h1)
    have k5 : Keeps (QFoot p (.slice (some ⟨g, 0, none⟩) q.waits.length lc) mo mt) w w5 := by
      subst hw5
      exact (((k2.of_none.trans k3.of_none (fun _ _ x => x)).drew).trans hkd (fun _ _ e => .inr (.inr (.inr (congrArg some e.symm))))).setCell (p := ⟨p, 3, none⟩) (fun _ => .inl rfl) _
    have h5 : QRaw w5 p (.slice (some ⟨g, 0, none⟩) (q.waits.length - 1) lc) mo mt { q with waits := q.waits.eraseIdx i } := by
      have he : (q.waits.eraseIdx i).length = q.waits.length - 1 := by rw [List.length_eraseIdx, if_pos hil]
      refine ⟨?_, ?_, ?_, ?_, h.hm⟩
      · subst hw5; rw [heap_setCell_same _ _ _ _ _ _ ((hkd.block p hpl3 hpg).trans h3.hp)]; rfl
      · have : RowAt w5 142 4 encTask g lc (q.waits.eraseIdx i) := hr4.at_block (by subst hw5; exact Below.heap_setCell _ _ _ _ ngp)
        unfold RowAt at this
        rw [he] at this
        exact this
      · exact h3.ho.elim fun n x => ⟨n, x.at_block (b5 mo (by omega) (fun e => ngo e.symm) (fun e => npo e.symm))⟩
      · exact h3.ht.elim fun n x => ⟨n, x.at_block (b5 mt (by omega) (fun e => ngt e.symm) (fun e => npt e.symm))⟩
    have q5 : CellAt w5 B (.pointer (some ⟨p, 0, none⟩)) 24 := (b5 B (by omega) ngB (by omega)).trans q3
    have w5' : CellAt w5 (B + 1) (.string who) 9 := (b5 (B + 1) (by omega) (by omega) (by omega)).trans w3'
    have n5 : CellAt w5 (B + 1 + 1) (.int .i64 now) 2 := (b5 (B + 1 + 1) (by omega) (by omega) (by omega)).trans n3
    have t5 : TaskAt w5 C t := (b5 C (by omega) (by omega) (by omega)).trans t3
    have hs5 : C + 1 ≤ w5.heap.size := by subst hw5; have := hkd.size; simp at this ⊢; omega
    clear hw5 hr4 hkd b5 k2 k3 h3 h2 t3 q3 w3' n3 q2 w2' n2 z3 zq zf xf4 xc4 xB4 hr3 hr2 hdel keepS h1 hb hg2 hsz3 hsz2 hwi
    obtain ⟨ta0, ta1⟩ := ta
    obtain ⟨_, _, d2, d3, d4, d5⟩ := h5.fields
    have df := h5.frozen 2
    obtain ⟨u0, u1, u2, u3⟩ := t5.cells
    have uf : w5.frozen? ⟨C, 3, none⟩ = false := frozen_of_row _ _ _ _ _ t5
    have v0 := q5.cell
    have hCp : ¬ C = p := by omega
    have hpC : ¬ p = C := by omega
    have hBC' : ¬ B = C := by omega
    have hBp : ¬ B = p := by omega
    have hn1 : q.next ≤ 9000000000000000000 := by omega
    go_wp2_with fail
    refine name_world ?_
    intro w6 hw6
    have hw6' : w6 = (w5.setCell ⟨C, 3, none⟩ (.int .i64 (t.att + 1))).setCell ⟨p, 2, none⟩ (.int .i64 (q.next + 1)) := hw6
    have b6 : ∀ k, k ≠ C → k ≠ p → w6.heap[k]? = w5.heap[k]? := fun k h1 h2 => by rw [hw6', Below.heap_setCell _ _ _ _ h2, Below.heap_setCell _ _ _ _ h1]
    have k6 : Keeps (QFoot p (.slice (some ⟨g, 0, none⟩) q.waits.length lc) mo mt) w w6 := by
      rw [hw6']
      exact (k5.setCell (p := ⟨C, 3, none⟩) (fun x => by simp only at x; omega) _).setCell (p := ⟨p, 2, none⟩) (fun _ => .inl rfl) _
    have h6 : QRaw w6 p (.slice (some ⟨g, 0, none⟩) (q.waits.length - 1) lc) mo mt { q with waits := q.waits.eraseIdx i, next := q.next + 1 } := by
      refine ⟨?_, h5.hl.at_block (fun b hb => b6 b ?_ ?_), h5.ho.elim fun n x => ⟨n, x.at_block (b6 mo (by omega) (fun e => npo e.symm))⟩, h5.ht.elim fun n x => ⟨n, x.at_block (b6 mt (by omega) (fun e => npt e.symm))⟩, h.hm⟩
      · rw [hw6', heap_setCell_same _ _ _ _ _ _ ((Below.heap_setCell _ _ _ _ (Ne.symm hCp)).trans h5.hp)]; rfl
      · cases hb; show g ≠ C; omega
      · cases hb; exact ngp
    have q6 : CellAt w6 B (.pointer (some ⟨p, 0, none⟩)) 24 := (b6 B hBC' hBp).trans q5
    have w6' : CellAt w6 (B + 1) (.string who) 9 := (b6 (B + 1) (by omega) (by omega)).trans w5'
    have n6 : CellAt w6 (B + 1 + 1) (.int .i64 now) 2 := (b6 (B + 1 + 1) (by omega) (by omega)).trans n5
    have t6 : TaskAt w6 C { t with att := t.att + 1 } := by
      unfold TaskAt
      rw [hw6', Below.heap_setCell _ _ _ _ hCp, heap_setCell_same _ _ _ _ _ _ t5]; rfl
    have hs6 : C + 1 ≤ w6.heap.size := by rw [hw6']; simpa using hs5
    clear hw6 hw6' b6 d2 d3 d4 d5 df u0 u1 u2 u3 uf v0 k5 h5 q5 w5' n5 t5 hs5
    obtain ⟨_, _, _, _, d4, _⟩ := h6.fields
    obtain ⟨u0, u1, u2, u3⟩ := t6.cells
    have v0 := q6.cell
    have v1 := w6'.cell
    have v2 := n6.cell
    obtain ⟨no, hmo⟩ := h6.ho
    obtain ⟨ob, hst⟩ := hmo.store keyI Try.underlying116 intInj (keyOf_i (a := q.next) (i64_wf ⟨by omega, by omega⟩)) ⟨{ t with att := t.att + 1 }, q.next, who, addI now lease⟩
    obtain ⟨hrun, hmap⟩ := hst w6.drew rfl
    have hrun' : (Instr.mapUpdate 116 (.map (some mo)) (.int .i64 q.next) (.agg #[.string t.key, .string t.sticky, .int .i64 t.ready, .int .i64 (t.att + 1), .int .i64 q.next, .string who, .int .i64 (addI now lease)])).run Try.prog w6.drew = .ok () (setBlock w6.drew mo ob) := hrun
    have keepS : ∀ w' : World, (∀ k, k ≠ mo → w'.heap[k]? = w6.heap[k]?) → w'.cell? ⟨B, 0, none⟩ = some (.pointer (some ⟨p, 0, none⟩)) ∧ w'.cell? ⟨p, 4, none⟩ = some (.map (some mo)) ∧ w'.cell? ⟨C, 0, none⟩ = some (.string t.key) ∧ w'.cell? ⟨C, 1, none⟩ = some (.string t.sticky) ∧ w'.cell? ⟨C, 2, none⟩ = some (.int .i64 t.ready) ∧ w'.cell? ⟨C, 3, none⟩ = some (.int .i64 (t.att + 1)) ∧ w'.cell? ⟨B + 1, 0, none⟩ = some (.string who) ∧ w'.cell? ⟨B + 1 + 1, 0, none⟩ = some (.int .i64 now) := fun w' e =>
      ⟨(World.cell?_of_block (a := ⟨B, 0, none⟩) (e B (by omega))).trans v0, (World.cell?_of_block (a := ⟨p, 4, none⟩) (e p npo)).trans d4, (World.cell?_of_block (a := ⟨C, 0, none⟩) (e C (by omega))).trans u0, (World.cell?_of_block (a := ⟨C, 1, none⟩) (e C (by omega))).trans u1, (World.cell?_of_block (a := ⟨C, 2, none⟩) (e C (by omega))).trans u2, (World.cell?_of_block (a := ⟨C, 3, none⟩) (e C (by omega))).trans u3, (World.cell?_of_block (a := ⟨B + 1, 0, none⟩) (e (B + 1) (by omega))).trans v1, (World.cell?_of_block (a := ⟨B + 1 + 1, 0, none⟩) (e (B + 1 + 1) (by omega))).trans v2⟩
    obtain ⟨nw0, nw1⟩ := hnow
    have hadd := fun W => add_c now lease W nw0 nw1 (by omega) hl2
    clear hrun hst
    go_region_held3 (fun w' => w'.cell? ⟨B, 0, none⟩ = some (.pointer (some ⟨p, 0, none⟩)) ∧ w'.cell? ⟨p, 4, none⟩ = some (.map (some mo)) ∧ w'.cell? ⟨C, 0, none⟩ = some (.string t.key) ∧ w'.cell? ⟨C, 1, none⟩ = some (.string t.sticky) ∧ w'.cell? ⟨C, 2, none⟩ = some (.int .i64 t.ready) ∧ w'.cell? ⟨C, 3, none⟩ = some (.int .i64 (t.att + 1)) ∧ w'.cell? ⟨B + 1, 0, none⟩ = some (.string who) ∧ w'.cell? ⟨B + 1 + 1, 0, none⟩ = some (.int .i64 now)) (first | exact keepS _ (fun _ _ => rfl) | exact keepS _ (fun k hk => heap_setBlock_ne _ _ _ _ hk)) ((go_at_call 84; refine (hadd _).mono ?_; rintro e w7 ⟨rfl, rfl⟩))
    generalize hw7 : setBlock w6.drew mo ob = w7
    rw [hw7] at hmap
    have b7 : ∀ k, k ≠ mo → w7.heap[k]? = w6.heap[k]? := fun k hk => by subst hw7; exact heap_setBlock_ne _ _ _ _ hk
    have k7 : Keeps (QFoot p (.slice (some ⟨g, 0, none⟩) q.waits.length lc) mo mt) w w7 := by subst hw7; exact k6.drew.setBlock (fun _ => .inr (.inl rfl)) _
    have h7 : QRaw w7 p (.slice (some ⟨g, 0, none⟩) (q.waits.length - 1) lc) mo mt { q with waits := q.waits.eraseIdx i, next := q.next + 1, outs := fput q.outs q.next ⟨{ t with att := t.att + 1 }, q.next, who, addI now lease⟩ } := by
      refine ⟨(b7 p npo).trans h6.hp, h6.hl.at_block (fun b hb => b7 b ?_), ⟨_, hmap⟩, h6.ht.elim fun n x => ⟨n, x.at_block (b7 mt (fun e => h.hm e.symm))⟩, h.hm⟩
      cases hb; exact ngo
    have q7 : CellAt w7 B (.pointer (some ⟨p, 0, none⟩)) 24 := (b7 B (by omega)).trans q6
    have t7 : TaskAt w7 C { t with att := t.att + 1 } := (b7 C (by omega)).trans t6
    clear hw7 hmap hrun' keepS hadd d4 u0 u1 u2 u3 v0 v1 v2 hmo k6 h6 q6 w6' n6 t6 b7
    obtain ⟨_, _, _, _, _, d5⟩ := h7.fields
    obtain ⟨u0, u1, u2, u3⟩ := t7.cells
    have v0 := q7.cell
    obtain ⟨nt, hmt⟩ := h7.ht
    obtain ⟨ob, hst⟩ := hmt.store keyS Try.underlying71 strInj (keyOf_s tk) q.next
    obtain ⟨hrun, hmap⟩ := hst w7.drew rfl
    have keepS : ∀ w' : World, (∀ k, k ≠ mt → w'.heap[k]? = w7.heap[k]?) → w'.cell? ⟨B, 0, none⟩ = some (.pointer (some ⟨p, 0, none⟩)) ∧ w'.cell? ⟨p, 5, none⟩ = some (.map (some mt)) ∧ w'.cell? ⟨C, 0, none⟩ = some (.string t.key) := fun w' e =>
      ⟨(World.cell?_of_block (a := ⟨B, 0, none⟩) (e B (by omega))).trans v0, (World.cell?_of_block (a := ⟨p, 5, none⟩) (e p npt)).trans d5, (World.cell?_of_block (a := ⟨C, 0, none⟩) (e C (by omega))).trans u0⟩
    clear hst
    go_wp2_with fail
    go_region_held3 (fun w' => w'.cell? ⟨B, 0, none⟩ = some (.pointer (some ⟨p, 0, none⟩)) ∧ w'.cell? ⟨p, 5, none⟩ = some (.map (some mt)) ∧ w'.cell? ⟨C, 0, none⟩ = some (.string t.key)) (first | exact keepS _ (fun _ _ => rfl) | exact keepS _ (fun k hk => heap_setBlock_ne _ _ _ _ hk)) (fail)
    generalize hw8 : setBlock w7.drew mt ob = w8
    rw [hw8] at hmap
    have b8 : ∀ k, k ≠ mt → w8.heap[k]? = w7.heap[k]? := fun k hk => by subst hw8; exact heap_setBlock_ne _ _ _ _ hk
    have k8 : Keeps (QFoot p (.slice (some ⟨g, 0, none⟩) q.waits.length lc) mo mt) w w8 := by subst hw8; exact k7.drew.setBlock (fun _ => .inr (.inr (.inl rfl))) _
    have h8 : QRaw w8 p (.slice (some ⟨g, 0, none⟩) (q.waits.length - 1) lc) mo mt (q.hand i t who (addI now lease)) := by
      refine ⟨(b8 p npt).trans h7.hp, h7.hl.at_block (fun b hb => b8 b ?_), h7.ho.elim fun n x => ⟨n, x.at_block (b8 mo h.hm)⟩, ⟨_, hmap⟩, h.hm⟩
      cases hb; exact ngt
    have t8 : TaskAt w8 C { t with att := t.att + 1 } := (b8 C (by omega)).trans t7
    obtain ⟨y0, _, _, y3⟩ := t8.cells
    have y3' : w8.cell? ⟨C, 3, none⟩ = some (.int .i64 (t.att + 1)) := y3
    have y0' : w8.cell? ⟨C, 0, none⟩ = some (.string t.key) := y0
    clear hw8 hmap hrun keepS hmt u0 u1 u2 u3 v0 k7 h7 t7 b8 y0 y3 q7 d5
    go_wp2_with fail
    go_quiet (fail)
    go_wp2_with fail
    refine bodyPost_ret (v := .tuple #[.string t.key, .int .i64 q.next, .int .i64 (t.att + 1), .int .i64 0]) (by simp [results, go_sem]) rfl ?_
    refine ⟨rfl, _, h8.keep0 ((Keeps.refl _ _).drewN _), fun k hk => by cases hk; rfl, k8.drewN _⟩

end Go.Proofs.Ytofdcmbjcpfabaa
