/- Queues of tasks: find, Done, Back, Beat, Len, New, Put. -/
import Derived.Test.YtofdcmbjcpfabaaQPoll
namespace Go.Proofs.Ytofdcmbjcpfabaa
open Go.RowKit Go.Maps Go.MapKept Go.ChangeMaps
attribute [local go_sem ↓] Go.wp_at_zero Go.wp_at_succ

set_option maxRecDepth 100000 in
set_option maxHeartbeats 2000000 in
theorem qlen_c (w : World) (p mo mt : Nat) (lv : Value) (q : QS) (h : QRaw w p lv mo mt q) (hn : 0 < q.next) :
    Calls Try.prog 21 #[.pointer (some ⟨p, 0, none⟩)] w fun e w' => e = .returned (.int .i64 q.waits.length) ∧ w = w' := by
  have hm := qmade_c w p mo mt lv q h hn
  obtain ⟨la, lc, rfl⟩ := h.len
  obtain ⟨_, _, _, c3, _⟩ := h.fields
  go_enter Try.func21, Try.ntmps21
  go_wp2_with fail
  refine hm.mono ?_
  rintro e w1 ⟨rfl, rfl⟩
  go_wp2_with fail
  go_ret
  exact ⟨rfl, rfl⟩

/-- What New refuses. -/
def BadNew (most grace : Int) : Prop := most < 1 ∨ 4096 < most ∨ grace < 0

theorem qnewBad_c (w : World) (most grace : Int) (h : BadNew most grace) :
    Calls Try.prog 19 #[.int .i64 most, .int .i64 grace] w fun e w' => e = .returned (.tuple #[.pointer none, .int .i64 1]) ∧ w = w' := by
  by_cases h1 : most < 1
  · go_enter Try.func19, Try.ntmps19
    go_wp2
    go_ret2
    exact ⟨rfl, rfl⟩
  · by_cases h2 : 4096 < most
    · go_enter Try.func19, Try.ntmps19
      go_wp2
      go_ret2
      exact ⟨rfl, rfl⟩
    · have h3 : grace < 0 := (h.resolve_left h1).resolve_left h2
      go_enter Try.func19, Try.ntmps19
      go_wp2
      go_ret2
      exact ⟨rfl, rfl⟩

/-- A new queue. -/
def QS.new (most grace : Int) : QS := ⟨most, grace, 1, [], fun _ => none, fun _ => none⟩

/-- What New leaves. -/
def NewPost (w : World) (most grace : Int) (e : Ending) (w' : World) : Prop :=
  ∃ p mo mt, e = .returned (.tuple #[.pointer (some ⟨p, 0, none⟩), .int .i64 0]) ∧ QRaw w' p (.slice none 0 0) mo mt (QS.new most grace) ∧ Keeps NoBlk w w' ∧ w.heap.size ≤ p ∧ w.heap.size ≤ mo ∧ w.heap.size ≤ mt

set_option maxRecDepth 100000 in
set_option maxHeartbeats 2000000 in
theorem qnew_c (w : World) (most grace : Int) (h : ¬ BadNew most grace) :
    Calls Try.prog 19 #[.int .i64 most, .int .i64 grace] w (NewPost w most grace) := by
  have hmm := @run_makeMap Try.prog
  have h1 : ¬ most < 1 := fun x => h (.inl x)
  have h2 : ¬ 4096 < most := fun x => h (.inr (.inl x))
  have h3 : ¬ grace < 0 := fun x => h (.inr (.inr x))
  go_enter Try.func19, Try.ntmps19
  go_wp2
  go_ret2
  refine ⟨w.heap.size + 1 + 1, w.heap.size, w.heap.size + 1, rfl, ⟨?_, RowV.nil _ _ _ _, ⟨0, MapFn_of_new ?_⟩, ⟨0, MapFn_of_new ?_⟩, by omega⟩, (((Keeps.refl _ w).alloc _).alloc _).alloc _, by omega, by omega, by omega⟩
  · exact (heap_alloc_new ((w.alloc _).alloc _) _ |> fun h => by simpa [QS.new] using h)
  · rw [Below.heap_alloc _ _ _ (by simp; omega), Below.heap_alloc _ _ _ (by simp)]; exact (heap_alloc _ _).1
  · rw [Below.heap_alloc _ _ _ (by simp)]
    have := (heap_alloc (w.alloc (.map #[] 0)) (.map #[] 0)).1
    simpa using this

/-- The cells of something that is out lie at the head of block B. -/
def OutAt (w : World) (B : Nat) (x : QOut) : Prop := w.heap[B]? = some (.cells #[.string x.t.key, .string x.t.sticky, .int .i64 x.t.ready, .int .i64 x.t.att, .int .i64 x.tok, .string x.who, .int .i64 x.till] 149 (0, 0))
theorem OutAt.cells {w : World} {B : Nat} {x : QOut} (h : OutAt w B x) : w.cell? ⟨B, 0, none⟩ = some (.string x.t.key) ∧ w.cell? ⟨B, 1, none⟩ = some (.string x.t.sticky) ∧ w.cell? ⟨B, 2, none⟩ = some (.int .i64 x.t.ready) ∧ w.cell? ⟨B, 3, none⟩ = some (.int .i64 x.t.att) ∧
    w.cell? ⟨B, 4, none⟩ = some (.int .i64 x.tok) ∧ w.cell? ⟨B, 5, none⟩ = some (.string x.who) ∧ w.cell? ⟨B, 6, none⟩ = some (.int .i64 x.till) := by
  refine ⟨?_, ?_, ?_, ?_, ?_, ?_, ?_⟩ <;> (rw [cell_of_row _ _ _ _ _ _ h]; rfl)

set_option maxRecDepth 100000 in
set_option maxHeartbeats 2000000 in
theorem qfindNo_c (w : World) (p mo mt : Nat) (lv : Value) (q : QS) (h : QRaw w p lv mo mt q) (hn : 0 < q.next) (tok : Int) (ht : I64 tok) (ho : q.outs tok = none) :
    Calls Try.prog 85 #[.pointer (some ⟨p, 0, none⟩), .int .i64 tok] w fun e w' => e = .returned (.tuple #[outV default, .int .i64 5]) ∧ Keeps NoBlk w w' := by
  have hl : ∀ W : World, Keeps NoBlk w W → (Instr.lookup 116 (.map (some mo)) (.int .i64 tok) true).run Try.prog W = .ok (.tuple #[.agg #[.string ⟨#[]⟩, .string ⟨#[]⟩, .int .i64 0, .int .i64 0, .int .i64 0, .string ⟨#[]⟩, .int .i64 0], .bool false]) W := fun W hk => by
    obtain ⟨n, hmo⟩ := (h.keep0 hk).ho
    have hl := hmo.look true keyI Try.underlying116 (zeroOut W) intInj (keyOf_i (i64_wf ht))
    rw [ho] at hl
    exact hl
  have hm : ∀ o, Calls Try.prog 78 #[.pointer (some ⟨p, 0, none⟩)] (w.alloc o) fun e w' => e = .returned (.bool true) ∧ w.alloc o = w' := fun o => qmade_c _ p mo mt lv q (h.keep0 ((Keeps.refl _ _).alloc o)) hn
  obtain ⟨_, _, _, _, c4, _⟩ := h.fields
  have hpl := h.lt.1
  obtain ⟨B, hB⟩ : ∃ B, w.heap.size = B := ⟨_, rfl⟩
  have hpB : ¬ p = B := by omega
  have hpl2 : p < B := by omega
  clear ho
  go_enter Try.func85, Try.ntmps85
  go_wp2_with fail
  refine (hm _).mono ?_
  rintro e w1 ⟨rfl, rfl⟩
  have hl1 := hl _ ((Keeps.refl NoBlk w).alloc (.cells #[.string ⟨#[]⟩, .string ⟨#[]⟩, .int .i64 0, .int .i64 0, .int .i64 0, .string ⟨#[]⟩, .int .i64 0] 149))
  clear hl hm
  go_wp2_with fail
  generalize hW : ((w.alloc (.cells #[.string ⟨#[]⟩, .string ⟨#[]⟩, .int .i64 0, .int .i64 0, .int .i64 0, .string ⟨#[]⟩, .int .i64 0] 149)).alloc (.cells #[.string ⟨#[]⟩, .string ⟨#[]⟩, .int .i64 0, .int .i64 0, .int .i64 0, .string ⟨#[]⟩, .int .i64 0] 149)) = W
  have hk : Keeps NoBlk w W := by subst hW; exact ((Keeps.refl _ _).alloc _).alloc _
  have ho : OutAt W B default := by
    subst hW hB
    unfold OutAt
    rw [Below.heap_alloc _ _ _ (by simp)]
    exact heap_alloc_new _ _
  obtain ⟨y0, y1, y2, y3, y4, y5, y6⟩ := ho.cells
  refine bodyPost_ret (v := .tuple #[outV default, .int .i64 5]) (by simp [results, go_sem, outV, *]) rfl ?_
  exact ⟨rfl, hk⟩

set_option maxRecDepth 100000 in
set_option maxHeartbeats 2000000 in
theorem qfindYes_c (w : World) (p mo mt : Nat) (lv : Value) (q : QS) (h : QRaw w p lv mo mt q) (hn : 0 < q.next) (tok : Int) (ht : I64 tok) (x : QOut) (ho : q.outs tok = some x) :
    Calls Try.prog 85 #[.pointer (some ⟨p, 0, none⟩), .int .i64 tok] w fun e w' => e = .returned (.tuple #[outV x, .int .i64 0]) ∧ Keeps NoBlk w w' := by
  have hl : ∀ W : World, Keeps NoBlk w W → (Instr.lookup 116 (.map (some mo)) (.int .i64 tok) true).run Try.prog W = .ok (.tuple #[.agg #[.string x.t.key, .string x.t.sticky, .int .i64 x.t.ready, .int .i64 x.t.att, .int .i64 x.tok, .string x.who, .int .i64 x.till], .bool true]) W := fun W hk => by
    obtain ⟨n, hmo⟩ := (h.keep0 hk).ho
    have hl := hmo.look true keyI Try.underlying116 (zeroOut W) intInj (keyOf_i (i64_wf ht))
    rw [ho] at hl
    exact hl
  have hm : ∀ o, Calls Try.prog 78 #[.pointer (some ⟨p, 0, none⟩)] (w.alloc o) fun e w' => e = .returned (.bool true) ∧ w.alloc o = w' := fun o => qmade_c _ p mo mt lv q (h.keep0 ((Keeps.refl _ _).alloc o)) hn
  obtain ⟨_, _, _, _, c4, _⟩ := h.fields
  have hpl := h.lt.1
  obtain ⟨B, hB⟩ : ∃ B, w.heap.size = B := ⟨_, rfl⟩
  have hpB : ¬ p = B := by omega
  have hpl2 : p < B := by omega
  clear ho
  go_enter Try.func85, Try.ntmps85
  go_wp2_with fail
  refine (hm _).mono ?_
  rintro e w1 ⟨rfl, rfl⟩
  have hl1 := hl _ ((Keeps.refl NoBlk w).alloc (.cells #[.string ⟨#[]⟩, .string ⟨#[]⟩, .int .i64 0, .int .i64 0, .int .i64 0, .string ⟨#[]⟩, .int .i64 0] 149))
  clear hl hm
  go_wp2_with fail
  generalize hW : ((w.alloc (.cells #[.string x.t.key, .string x.t.sticky, .int .i64 x.t.ready, .int .i64 x.t.att, .int .i64 x.tok, .string x.who, .int .i64 x.till] 149)).alloc (.cells #[.string x.t.key, .string x.t.sticky, .int .i64 x.t.ready, .int .i64 x.t.att, .int .i64 x.tok, .string x.who, .int .i64 x.till] 149)) = W
  have hk : Keeps NoBlk w W := by subst hW; exact ((Keeps.refl _ _).alloc _).alloc _
  have ho : OutAt W B x := by
    subst hW hB
    unfold OutAt
    rw [Below.heap_alloc _ _ _ (by simp)]
    exact heap_alloc_new _ _
  obtain ⟨y0, y1, y2, y3, y4, y5, y6⟩ := ho.cells
  refine bodyPost_ret (v := .tuple #[outV x, .int .i64 0]) (by simp [results, go_sem, outV, *]) rfl ?_
  exact ⟨rfl, hk⟩

/-- The queue without what is out with a token. -/
def QS.done (q : QS) (tok : Int) (x : QOut) : QS := { q with outs := fdel q.outs tok, there := fdel q.there x.t.key }

set_option maxRecDepth 100000 in
set_option maxHeartbeats 2000000 in
theorem qdoneNo_c (w : World) (p mo mt : Nat) (lv : Value) (q : QS) (h : QRaw w p lv mo mt q) (hn : 0 < q.next) (tok : Int) (ht : I64 tok) (ho : q.outs tok = none) :
    Calls Try.prog 24 #[.pointer (some ⟨p, 0, none⟩), .int .i64 tok] w fun e w' => e = .returned (.tuple #[.string ⟨#[]⟩, .int .i64 0, .int .i64 5]) ∧ Keeps NoBlk w w' := by
  have hf := qfindNo_c w p mo mt lv q h hn tok ht ho
  go_enter Try.func24, Try.ntmps24
  go_wp2_with fail
  refine hf.mono ?_
  rintro e w1 ⟨rfl, k1⟩
  obtain ⟨B, hB⟩ : ∃ B, w1.heap.size = B := ⟨_, rfl⟩
  have hz : outV (default : QOut) = .agg #[.string ⟨#[]⟩, .string ⟨#[]⟩, .int .i64 0, .int .i64 0, .int .i64 0, .string ⟨#[]⟩, .int .i64 0] := rfl
  rw [hz]
  clear hz
  go_wp2_with fail
  refine name_world ?_
  intro w2 hw2
  have k2 : Keeps NoBlk w1 w2 := by subst hw2; exact (Keeps.refl _ _).alloc _
  have ho : OutAt w2 B default := by subst hw2 hB; exact heap_alloc_new _ _
  obtain ⟨y0, _, _, y3, _⟩ := ho.cells
  have y0' : w2.cell? ⟨B, 0, none⟩ = some (.string ⟨#[]⟩) := y0
  have y3' : w2.cell? ⟨B, 3, none⟩ = some (.int .i64 0) := y3
  clear hw2 hB y0 y3
  go_quiet (fail)
  go_wp2_with fail
  go_ret3
  exact ⟨rfl, (k1.trans k2 (fun _ _ x => x)).drewN _⟩

set_option maxRecDepth 100000 in
set_option maxHeartbeats 2000000 in
theorem qbackNo_c (w : World) (p mo mt : Nat) (lv : Value) (q : QS) (h : QRaw w p lv mo mt q) (hn : 0 < q.next) (tok ready : Int) (ht : I64 tok) (ho : q.outs tok = none) :
    Calls Try.prog 23 #[.pointer (some ⟨p, 0, none⟩), .int .i64 tok, .int .i64 ready] w fun e w' => e = .returned (.tuple #[.string ⟨#[]⟩, .int .i64 0, .int .i64 5]) ∧ Keeps NoBlk w w' := by
  have hf := qfindNo_c w p mo mt lv q h hn tok ht ho
  go_enter Try.func23, Try.ntmps23
  go_wp2_with fail
  refine hf.mono ?_
  rintro e w1 ⟨rfl, k1⟩
  obtain ⟨B, hB⟩ : ∃ B, w1.heap.size = B := ⟨_, rfl⟩
  have hz : outV (default : QOut) = .agg #[.string ⟨#[]⟩, .string ⟨#[]⟩, .int .i64 0, .int .i64 0, .int .i64 0, .string ⟨#[]⟩, .int .i64 0] := rfl
  rw [hz]
  clear hz
  go_wp2_with fail
  refine name_world ?_
  intro w2 hw2
  have k2 : Keeps NoBlk w1 w2 := by subst hw2; exact (Keeps.refl _ _).alloc _
  have ho : OutAt w2 B default := by subst hw2 hB; exact heap_alloc_new _ _
  obtain ⟨y0, _, _, y3, _⟩ := ho.cells
  have y0' : w2.cell? ⟨B, 0, none⟩ = some (.string ⟨#[]⟩) := y0
  have y3' : w2.cell? ⟨B, 3, none⟩ = some (.int .i64 0) := y3
  clear hw2 hB y0 y3
  go_quiet (fail)
  go_wp2_with fail
  go_ret3
  exact ⟨rfl, (k1.trans k2 (fun _ _ x => x)).drewN _⟩

set_option maxRecDepth 100000 in
set_option maxHeartbeats 4000000 in
theorem qdoneYes_c (w : World) (p mo mt : Nat) (lv : Value) (q : QS) (h : QRaw w p lv mo mt q) (hn : 0 < q.next) (tok : Int) (ht : I64 tok) (x : QOut) (ho : q.outs tok = some x) (hk : x.t.key.size ≤ maxLen) :
    Calls Try.prog 24 #[.pointer (some ⟨p, 0, none⟩), .int .i64 tok] w fun e w' => e = .returned (.tuple #[.string x.t.key, .int .i64 x.t.att, .int .i64 0]) ∧ QRaw w' p lv mo mt (q.done tok x) ∧ Keeps (QFoot p lv mo mt) w w' := by
  have hf := qfindYes_c w p mo mt lv q h hn tok ht x ho
  clear ho
  go_enter Try.func24, Try.ntmps24
  go_wp2_with fail
  refine hf.mono ?_
  rintro e w1 ⟨rfl, k1⟩
  obtain ⟨B, hB⟩ : ∃ B, w1.heap.size = B := ⟨_, rfl⟩
  have h1 := h.keep0 k1
  have hoK : ∀ o : Obj, QRaw (w1.alloc o) p lv mo mt q := fun o => h1.keep0 ((Keeps.refl _ _).alloc o)
  obtain ⟨npo, npt, nl⟩ := h.ne
  have hpl := h1.lt.1
  have hml := h1.lt.2.2.1
  have htl := h1.lt.2.2.2
  obtain ⟨_, _, _, _, c4, _⟩ := h1.fields
  have hpB : ¬ p = B := by omega
  have hpB' : p < B := by omega
  obtain ⟨n, hmo⟩ := h1.ho
  obtain ⟨ob, hd⟩ := hmo.drop keyI Try.underlying116 intInj (keyOf_i (i64_wf ht)) 0
  obtain ⟨hrun, hmap⟩ := hd (w1.alloc (.cells #[.string x.t.key, .string x.t.sticky, .int .i64 x.t.ready, .int .i64 x.t.att, .int .i64 x.tok, .string x.who, .int .i64 x.till] 149)) (Below.heap_alloc _ _ _ hml)
  unfold outV
  go_wp2_with fail
  generalize hw2 : setBlock (w1.alloc (.cells #[.string x.t.key, .string x.t.sticky, .int .i64 x.t.ready, .int .i64 x.t.att, .int .i64 x.tok, .string x.who, .int .i64 x.till] 149)) mo ob = w2
  rw [hw2] at hmap
  have b2 : ∀ k, k < B → k ≠ mo → w2.heap[k]? = w1.heap[k]? := fun k hk hne => by subst hw2; exact (heap_setBlock_ne _ _ _ _ hne).trans (Below.heap_alloc _ _ _ (by omega))
  have k2 : Keeps (QFoot p lv mo mt) w w2 := by subst hw2; exact ((k1.of_none).alloc _).setBlock (fun _ => .inr (.inl rfl)) _
  have x2 : OutAt w2 B x := by
    subst hw2 hB
    exact (heap_setBlock_ne _ _ _ _ (by omega)).trans (heap_alloc_new _ _)
  have h2 : QRaw w2 p lv mo mt { q with outs := fdel q.outs tok } :=
    ⟨(b2 p hpB' npo).trans h1.hp, h1.hl.at_block (fun b hb => b2 b (by have := h1.lt.2.1 b hb; omega) (nl b hb).2.1), ⟨_, hmap⟩, h1.ht.elim fun n x => ⟨n, x.at_block (b2 mt (by omega) (fun e => h.hm e.symm))⟩, h.hm⟩
  have hs2 : B + 1 = w2.heap.size := by subst hw2 hB; simp
  obtain ⟨_, _, _, _, _, d5⟩ := h2.fields
  obtain ⟨y0, _, _, y3, _⟩ := x2.cells
  obtain ⟨nt, hmt⟩ := h2.ht
  obtain ⟨ot, hd2⟩ := hmt.drop keyS Try.underlying71 strInj (keyOf_s hk) 0
  obtain ⟨hrun2, hmap2⟩ := hd2 w2.drew rfl
  have htB : mt ≠ B := by omega
  have keepS : ∀ w' : World, (∀ k, k ≠ mt → w'.heap[k]? = w2.heap[k]?) → w'.cell? ⟨p, 5, none⟩ = some (.map (some mt)) ∧ w'.cell? ⟨B, 0, none⟩ = some (.string x.t.key) := fun w' e =>
    ⟨(World.cell?_of_block (a := ⟨p, 5, none⟩) (e p npt)).trans d5, (World.cell?_of_block (a := ⟨B, 0, none⟩) (e B (Ne.symm htB))).trans y0⟩
  clear hw2 hrun hd hd2 hmap b2 c4 hoK
  go_region_held3 (fun w' => w'.cell? ⟨p, 5, none⟩ = some (.map (some mt)) ∧ w'.cell? ⟨B, 0, none⟩ = some (.string x.t.key)) (first | exact keepS _ (fun _ _ => rfl) | exact keepS _ (fun k hk => heap_setBlock_ne _ _ _ _ hk)) (fail)
  generalize hw3 : setBlock w2.drew mt ot = w3
  rw [hw3] at hmap2
  have b3 : ∀ k, k ≠ mt → w3.heap[k]? = w2.heap[k]? := fun k hk => by subst hw3; exact heap_setBlock_ne _ _ _ _ hk
  have k3 : Keeps (QFoot p lv mo mt) w w3 := by subst hw3; exact k2.drew.setBlock (fun _ => .inr (.inr (.inl rfl))) _
  have h3 : QRaw w3 p lv mo mt (q.done tok x) :=
    ⟨(b3 p npt).trans h2.hp, h2.hl.at_block (fun b hb => b3 b (nl b hb).2.2), h2.ho.elim fun n x => ⟨n, x.at_block (b3 mo h.hm)⟩, ⟨_, hmap2⟩, h.hm⟩
  have x3 : OutAt w3 B x := (b3 B (Ne.symm htB)).trans x2
  obtain ⟨z0, _, _, z3, _⟩ := x3.cells
  clear hw3 hrun2 hmap2 b3 y0 y3 d5 keepS x2 h2 k2
  go_wp2_with fail
  go_quiet (fail)
  go_wp2_with fail
  go_ret3
  exact ⟨rfl, h3.keep0 ((Keeps.refl _ _).drewN _), k3.drewN _⟩

/-- What is out with a token waits again. -/
def QS.back (q : QS) (tok : Int) (x : QOut) (ready : Int) : QS := QS.wait { q with outs := fdel q.outs tok } ⟨x.t.key, ⟨#[]⟩, ready, x.t.att⟩

set_option maxRecDepth 100000 in
set_option maxHeartbeats 4000000 in
theorem qbackYes_c (w : World) (p mo mt : Nat) (lv : Value) (q : QS) (h : QRaw w p lv mo mt q) (hn : 0 < q.next) (tok ready : Int) (ht : I64 tok) (x : QOut) (ho : q.outs tok = some x) (hk : x.t.key.size ≤ maxLen) (hbig : q.waits.length ≤ 100000000000) :
    Calls Try.prog 23 #[.pointer (some ⟨p, 0, none⟩), .int .i64 tok, .int .i64 ready] w fun e w' => e = .returned (.tuple #[.string x.t.key, .int .i64 x.t.att, .int .i64 0]) ∧
      ∃ lv', QRaw w' p lv' mo mt (q.back tok x ready) ∧ (∀ k, lv'.ownBlock = some k → lv.ownBlock = some k ∨ w.heap.size ≤ k) ∧ Keeps (QFoot p lv mo mt) w w' := by
  have hf := qfindYes_c w p mo mt lv q h hn tok ht x ho
  clear ho
  go_enter Try.func23, Try.ntmps23
  go_wp2_with fail
  refine hf.mono ?_
  rintro e w1 ⟨rfl, k1⟩
  obtain ⟨B, hB⟩ : ∃ B, w1.heap.size = B := ⟨_, rfl⟩
  have h1 := h.keep0 k1
  obtain ⟨npo, npt, nl⟩ := h.ne
  have hpl := h1.lt.1
  have hml := h1.lt.2.2.1
  have htl := h1.lt.2.2.2
  obtain ⟨_, _, _, _, c4, _⟩ := h1.fields
  have hpB : ¬ p = B := by omega
  have hpB' : p < B := by omega
  have hwB : w.heap.size ≤ B := by rw [← hB]; exact k1.size
  obtain ⟨n, hmo⟩ := h1.ho
  obtain ⟨ob, hd⟩ := hmo.drop keyI Try.underlying116 intInj (keyOf_i (i64_wf ht)) 0
  obtain ⟨hrun, hmap⟩ := hd (w1.alloc (.cells #[.string x.t.key, .string x.t.sticky, .int .i64 x.t.ready, .int .i64 x.t.att, .int .i64 x.tok, .string x.who, .int .i64 x.till] 149)) (Below.heap_alloc _ _ _ hml)
  have hx2 : OutAt (setBlock (w1.alloc (.cells #[.string x.t.key, .string x.t.sticky, .int .i64 x.t.ready, .int .i64 x.t.att, .int .i64 x.tok, .string x.who, .int .i64 x.till] 149)) mo ob) B x := by
    subst hB
    exact (heap_setBlock_ne _ _ _ _ (by omega)).trans (heap_alloc_new _ _)
  obtain ⟨y0, _, _, y3, _⟩ := hx2.cells
  unfold outV
  clear hd
  go_wp2_with fail
  refine name_calls ?_
  intro w2 hw2
  rw [← hw2] at hmap hx2
  have b2 : ∀ k, k < B → k ≠ mo → w2.heap[k]? = w1.heap[k]? := fun k hk hne => by subst hw2; exact (heap_setBlock_ne _ _ _ _ hne).trans (Below.heap_alloc _ _ _ (by omega))
  have k2 : Keeps (QFoot p lv mo mt) w w2 := by subst hw2; exact ((k1.of_none).alloc _).setBlock (fun _ => .inr (.inl rfl)) _
  have h2 : QRaw w2 p lv mo mt { q with outs := fdel q.outs tok } :=
    ⟨(b2 p hpB' npo).trans h1.hp, h1.hl.at_block (fun b hb => b2 b (by have := h1.lt.2.1 b hb; omega) (nl b hb).2.1), ⟨_, hmap⟩, h1.ht.elim fun n x => ⟨n, x.at_block (b2 mt (by omega) (fun e => h.hm e.symm))⟩, h.hm⟩
  have hs2 : B + 1 = w2.heap.size := by subst hw2 hB; simp
  have hwait := wait_c w2 p mo mt lv { q with outs := fdel q.outs tok } h2 ⟨x.t.key, ⟨#[]⟩, ready, x.t.att⟩ hbig hk
  unfold taskV at hwait
  clear hw2 hrun hmap b2 c4 y0 y3 hmo
  refine hwait.mono ?_
  rintro e w3 ⟨rfl, lv', h3, hlv, k3⟩
  have x3 : OutAt w3 B x := (k3.block B (by omega) (fun e => by
    rcases e with e | e | e | e
    · omega
    · omega
    · omega
    · have := h1.lt.2.1 B e; omega)).trans hx2
  obtain ⟨z0, _, _, z3, _⟩ := x3.cells
  have hlv' : Hid (∀ k, lv'.ownBlock = some k → lv.ownBlock = some k ∨ w.heap.size ≤ k) := fun k hk => (hlv k hk).imp id (fun h => by omega)
  clear hlv hwait
  go_wp2_with fail
  go_quiet (fail)
  go_wp2_with fail
  go_ret3
  exact ⟨rfl, lv', h3.keep0 ((Keeps.refl _ _).drewN _), hlv'.out, (k2.trans k3 (fun _ _ h => h)).drewN _⟩

end Go.Proofs.Ytofdcmbjcpfabaa
