/- Queues of tasks: Put, Beat. -/
import Derived.Test.YtofdcmbjcpfabaaQTwin
namespace Go.Proofs.Ytofdcmbjcpfabaa
open Go.RowKit Go.Maps Go.MapKept Go.ChangeMaps
attribute [local go_sem ↓] Go.wp_at_zero Go.wp_at_succ

theorem zeroI (w : World) : (zeroValue 3).run Try.prog w = .ok (.int .i64 0) w := by kernel_rfl

set_option maxRecDepth 100000 in
set_option maxHeartbeats 2000000 in
theorem qputThere_c (w : World) (p mo mt : Nat) (lv : Value) (q : QS) (h : QRaw w p lv mo mt q) (hn : 0 < q.next) (key sticky : ByteArray) (ready : Int) (hk : key.size ≤ maxLen) (v : Int) (hv : q.there key = some v) :
    Calls Try.prog 20 #[.pointer (some ⟨p, 0, none⟩), .string key, .string sticky, .int .i64 ready] w fun e w' => e = .returned (.int .i64 6) ∧ w = w' := by
  have hm := qmade_c w p mo mt lv q h hn
  obtain ⟨_, _, _, _, _, c5⟩ := h.fields
  obtain ⟨n, ht⟩ := h.ht
  have hl := ht.look true keyS Try.underlying71 (zeroI w) strInj (keyOf_s hk)
  rw [hv] at hl
  simp only [Option.map_some, Option.getD_some, if_true, Option.isSome_some] at hl
  go_enter Try.func20, Try.ntmps20
  go_wp2_with fail
  refine hm.mono ?_
  rintro e w1 ⟨rfl, rfl⟩
  go_wp2_with fail
  go_ret
  exact ⟨rfl, rfl⟩

set_option maxRecDepth 100000 in
set_option maxHeartbeats 2000000 in
theorem qputFull_c (w : World) (p mo mt : Nat) (lv : Value) (q : QS) (h : QRaw w p lv mo mt q) (hn : 0 < q.next) (key sticky : ByteArray) (ready : Int) (hk : key.size ≤ maxLen) (hv : q.there key = none) (hf : q.most ≤ q.waits.length) :
    Calls Try.prog 20 #[.pointer (some ⟨p, 0, none⟩), .string key, .string sticky, .int .i64 ready] w fun e w' => e = .returned (.int .i64 7) ∧ Keeps NoBlk w w' := by
  have hm := qmade_c w p mo mt lv q h hn
  obtain ⟨la, lc, rfl⟩ := h.len
  obtain ⟨c0, _, _, c3, _, c5⟩ := h.fields
  obtain ⟨n, ht⟩ := h.ht
  have hl := ht.look true keyS Try.underlying71 (zeroI w) strInj (keyOf_s hk)
  rw [hv] at hl
  simp only [Option.map_none, Option.getD_none, if_true, Option.isSome_none] at hl
  go_enter Try.func20, Try.ntmps20
  go_wp2_with fail
  refine hm.mono ?_
  rintro e w1 ⟨rfl, rfl⟩
  go_wp2_with fail
  go_quiet (fail)
  go_wp2_with fail
  go_ret
  exact ⟨rfl, (Keeps.refl _ _).drewN _⟩

/-- What Put leaves where it puts. -/
def PutPost (w : World) (p : Nat) (lv : Value) (mo mt : Nat) (q : QS) (e : Ending) (w' : World) : Prop :=
  e = .returned (.int .i64 0) ∧ ∃ lv', QRaw w' p lv' mo mt q ∧ (∀ k, lv'.ownBlock = some k → lv.ownBlock = some k ∨ w.heap.size ≤ k) ∧ Keeps (QFoot p lv mo mt) w w'

set_option maxRecDepth 100000 in
set_option maxHeartbeats 2000000 in
theorem qputOk_c (w : World) (p mo mt : Nat) (lv : Value) (q : QS) (h : QRaw w p lv mo mt q) (hn : 0 < q.next) (key sticky : ByteArray) (ready : Int) (hk : key.size ≤ maxLen) (hv : q.there key = none) (hf : ¬ q.most ≤ q.waits.length) (hbig : q.waits.length ≤ 1000000) :
    Calls Try.prog 20 #[.pointer (some ⟨p, 0, none⟩), .string key, .string sticky, .int .i64 ready] w (PutPost w p lv mo mt (q.wait ⟨key, sticky, ready, 0⟩)) := by
  have hm := qmade_c w p mo mt lv q h hn
  have h0 := h
  obtain ⟨la, lc, rfl⟩ := h.len
  have hw : ∀ W, Keeps NoBlk w W → Calls Try.prog 79 #[.pointer (some ⟨p, 0, none⟩), .agg #[.string key, .string sticky, .int .i64 ready, .int .i64 0]] W fun e w' =>
      e = .returned (.tuple #[]) ∧ Hid (∃ lv', QRaw w' p lv' mo mt (q.wait ⟨key, sticky, ready, 0⟩) ∧ (∀ k, lv'.ownBlock = some k → (Value.slice la q.waits.length lc).ownBlock = some k ∨ w.heap.size ≤ k) ∧ Keeps (QFoot p (.slice la q.waits.length lc) mo mt) w w') := fun W hW => by
    refine (wait_c W p mo mt _ q (h0.keep0 hW) ⟨key, sticky, ready, 0⟩ (by omega) hk).mono ?_
    rintro e w' ⟨rfl, lv', h1, h2, h3⟩
    exact ⟨rfl, lv', h1, fun k hk => (h2 k hk).imp id (fun x => Nat.le_trans hW.size x), hW.of_none.trans h3 (fun _ _ x => x)⟩
  obtain ⟨c0, _, _, c3, _, c5⟩ := h.fields
  obtain ⟨n, ht⟩ := h.ht
  have hl := ht.look true keyS Try.underlying71 (zeroI w) strInj (keyOf_s hk)
  rw [hv] at hl
  simp only [Option.map_none, Option.getD_none, if_true, Option.isSome_none] at hl
  clear h0 h hv
  go_enter Try.func20, Try.ntmps20
  go_wp2_with fail
  refine hm.mono ?_
  rintro e w1 ⟨rfl, rfl⟩
  go_wp2_with fail
  go_quiet (fail)
  go_wp2_with fail
  refine (hw _ ((Keeps.refl _ _).drewN _)).mono ?_
  rintro e w2 ⟨rfl, h2⟩
  go_wp2_with fail
  go_ret
  exact ⟨rfl, h2.out⟩

theorem qbeatBad_c (w : World) (p mo mt : Nat) (lv : Value) (q : QS) (h : QRaw w p lv mo mt q) (hn : 0 < q.next) (tok now lease : Int) (hl : lease < 1) :
    Calls Try.prog 37 #[.pointer (some ⟨p, 0, none⟩), .int .i64 tok, .int .i64 now, .int .i64 lease] w fun e w' => e = .returned (.int .i64 1) ∧ w = w' := by
  have hm := qmade_c w p mo mt lv q h hn
  go_enter Try.func37, Try.ntmps37
  go_wp2_with fail
  refine hm.mono ?_
  rintro e w1 ⟨rfl, rfl⟩
  go_wp2_with fail
  go_ret
  exact ⟨rfl, rfl⟩

set_option maxRecDepth 100000 in
set_option maxHeartbeats 2000000 in
theorem qbeatNo_c (w : World) (p mo mt : Nat) (lv : Value) (q : QS) (h : QRaw w p lv mo mt q) (hn : 0 < q.next) (tok now lease : Int) (hl : ¬ lease < 1) (ht : I64 tok) (ho : q.outs tok = none) :
    Calls Try.prog 37 #[.pointer (some ⟨p, 0, none⟩), .int .i64 tok, .int .i64 now, .int .i64 lease] w fun e w' => e = .returned (.int .i64 5) ∧ Keeps NoBlk w w' := by
  have hm := qmade_c w p mo mt lv q h hn
  have hf := qfindNo_c w p mo mt lv q h hn tok ht ho
  have hz : outV (default : QOut) = .agg #[.string ⟨#[]⟩, .string ⟨#[]⟩, .int .i64 0, .int .i64 0, .int .i64 0, .string ⟨#[]⟩, .int .i64 0] := rfl
  rw [hz] at hf
  clear hz ho
  go_enter Try.func37, Try.ntmps37
  go_wp2_with fail
  refine hm.mono ?_
  rintro e w1 ⟨rfl, rfl⟩
  go_wp2_with fail
  refine hf.mono ?_
  rintro e w1 ⟨rfl, k1⟩
  go_wp2_with fail
  go_ret
  exact ⟨rfl, k1.alloc _⟩

/-- max -/
def maxI (a b : Int) : Int := if a < b then b else a

/-- What is out with a token is given more time. -/
def QS.beat (q : QS) (tok : Int) (x : QOut) (till : Int) : QS := { q with outs := fput q.outs tok { x with till := maxI x.till till } }

set_option maxRecDepth 100000 in
set_option maxHeartbeats 4000000 in
theorem qbeatYes_c (w : World) (p mo mt : Nat) (lv : Value) (q : QS) (h : QRaw w p lv mo mt q) (hn : 0 < q.next) (tok now lease : Int) (hl : ¬ lease < 1) (hl2 : lease ≤ 9223372036854775807) (hnow : I64 now) (ht : I64 tok) (x : QOut) (ho : q.outs tok = some x) :
    Calls Try.prog 37 #[.pointer (some ⟨p, 0, none⟩), .int .i64 tok, .int .i64 now, .int .i64 lease] w fun e w' => e = .returned (.int .i64 0) ∧ QRaw w' p lv mo mt (q.beat tok x (addI now lease)) ∧ Keeps (QFoot p lv mo mt) w w' := by
  have hm := qmade_c w p mo mt lv q h hn
  have hf := qfindYes_c w p mo mt lv q h hn tok ht x ho
  obtain ⟨nw0, nw1⟩ := hnow
  have hadd := fun W => add_c now lease W nw0 nw1 (by omega) hl2
  unfold outV at hf
  clear ho
  go_enter Try.func37, Try.ntmps37
  go_wp2_with fail
  refine hm.mono ?_
  rintro e w1 ⟨rfl, rfl⟩
  go_wp2_with fail
  refine hf.mono ?_
  rintro e w1 ⟨rfl, k1⟩
  obtain ⟨B, hB⟩ : ∃ B, w1.heap.size = B := ⟨_, rfl⟩
  go_wp2_with fail
  refine name_world ?_
  intro w2 hw2
  have k2 : Keeps NoBlk w w2 := by subst hw2; exact k1.alloc _
  have x2 : OutAt w2 B x := by subst hw2 hB; exact heap_alloc_new _ _
  have h2 := h.keep0 k2
  obtain ⟨y0, y1, y2, y3, y4, y5, y6⟩ := x2.cells
  have yf : w2.frozen? ⟨B, 6, none⟩ = false := frozen_of_row _ _ _ _ _ x2
  have hlt := h.lt
  have hsz := k1.size
  have hpB : p ≠ B := by omega
  have hmB : mo ≠ B := by omega
  clear hw2
  go_region_law (first | (go_simp; go_at_call 84; refine (hadd _).mono ?_; rintro e w7 ⟨rfl, rfl⟩))
  all_goals
    obtain ⟨m, hmx⟩ : ∃ m, maxI x.till (addI now lease) = m := ⟨_, rfl⟩
    have hmx' : (if x.till < addI now lease then addI now lease else x.till) = m := hmx
    rw [hmx']
    generalize hw3 : w2.setCell ⟨B, 6, none⟩ (.int .i64 m) = w3
    have b3 : ∀ k, k ≠ B → w3.heap[k]? = w2.heap[k]? := fun k hk => by subst hw3; exact Below.heap_setCell _ _ _ _ hk
    have k3 : Keeps NoBlk w w3 := by subst hw3; exact k2.setCell (p := ⟨B, 6, none⟩) (fun x => absurd x (by show ¬ B < _; omega)) _
    have h3 := h.keep0 k3
    have x3 : OutAt w3 B { x with till := m } := by subst hw3; unfold OutAt; rw [heap_setCell_same _ _ _ _ _ _ x2]; rfl
    obtain ⟨z0, z1, z2, z3, z4, z5, z6⟩ := x3.cells
    obtain ⟨_, _, _, _, d4, _⟩ := h3.fields
    obtain ⟨no, hmo⟩ := h3.ho
    obtain ⟨ob, hst⟩ := hmo.store keyI Try.underlying116 intInj (keyOf_i (a := tok) (i64_wf ht)) { x with till := m }
    obtain ⟨hrun, hmap⟩ := hst w3.drew.drew rfl
    have hrun' : (Instr.mapUpdate 116 (.map (some mo)) (.int .i64 tok) (.agg #[.string x.t.key, .string x.t.sticky, .int .i64 x.t.ready, .int .i64 x.t.att, .int .i64 x.tok, .string x.who, .int .i64 m])).run Try.prog w3.drew.drew = .ok () (setBlock w3.drew.drew mo ob) := hrun
    have keepS : ∀ w' : World, (∀ k, k ≠ mo → w'.heap[k]? = w3.heap[k]?) → w'.cell? ⟨p, 4, none⟩ = some (.map (some mo)) ∧ w'.cell? ⟨B, 0, none⟩ = some (.string x.t.key) ∧ w'.cell? ⟨B, 1, none⟩ = some (.string x.t.sticky) ∧ w'.cell? ⟨B, 2, none⟩ = some (.int .i64 x.t.ready) ∧ w'.cell? ⟨B, 3, none⟩ = some (.int .i64 x.t.att) ∧ w'.cell? ⟨B, 4, none⟩ = some (.int .i64 x.tok) ∧ w'.cell? ⟨B, 5, none⟩ = some (.string x.who) ∧ w'.cell? ⟨B, 6, none⟩ = some (.int .i64 m) := fun w' e =>
      ⟨(World.cell?_of_block (a := ⟨p, 4, none⟩) (e p h.ne.1)).trans d4, (World.cell?_of_block (a := ⟨B, 0, none⟩) (e B (Ne.symm hmB))).trans z0, (World.cell?_of_block (a := ⟨B, 1, none⟩) (e B (Ne.symm hmB))).trans z1, (World.cell?_of_block (a := ⟨B, 2, none⟩) (e B (Ne.symm hmB))).trans z2, (World.cell?_of_block (a := ⟨B, 3, none⟩) (e B (Ne.symm hmB))).trans z3, (World.cell?_of_block (a := ⟨B, 4, none⟩) (e B (Ne.symm hmB))).trans z4, (World.cell?_of_block (a := ⟨B, 5, none⟩) (e B (Ne.symm hmB))).trans z5, (World.cell?_of_block (a := ⟨B, 6, none⟩) (e B (Ne.symm hmB))).trans z6⟩
    have hmxh : Hid (maxI x.till (addI now lease) = m) := hmx
    clear hst hrun hmx hmx' hw3 y0 y1 y2 y3 y4 y5 y6 yf hadd
    go_wp2_with fail
    go_region_held3 (fun w' => w'.cell? ⟨p, 4, none⟩ = some (.map (some mo)) ∧ w'.cell? ⟨B, 0, none⟩ = some (.string x.t.key) ∧ w'.cell? ⟨B, 1, none⟩ = some (.string x.t.sticky) ∧ w'.cell? ⟨B, 2, none⟩ = some (.int .i64 x.t.ready) ∧ w'.cell? ⟨B, 3, none⟩ = some (.int .i64 x.t.att) ∧ w'.cell? ⟨B, 4, none⟩ = some (.int .i64 x.tok) ∧ w'.cell? ⟨B, 5, none⟩ = some (.string x.who) ∧ w'.cell? ⟨B, 6, none⟩ = some (.int .i64 m)) (first | exact keepS _ (fun _ _ => rfl) | exact keepS _ (fun k hk => heap_setBlock_ne _ _ _ _ hk)) (fail)
    generalize hw4 : setBlock w3.drew.drew mo ob = w4
    rw [hw4] at hmap
    have b4 : ∀ k, k ≠ mo → w4.heap[k]? = w3.heap[k]? := fun k hk => by subst hw4; exact heap_setBlock_ne _ _ _ _ hk
    have k4 : Keeps (QFoot p lv mo mt) w w4 := by subst hw4; exact (k3.of_none.drew.drew).setBlock (fun _ => .inr (.inl rfl)) _
    have h4 : QRaw w4 p lv mo mt (q.beat tok x (addI now lease)) := by
      unfold QS.beat
      rw [hmxh.out]
      exact ⟨(b4 p h.ne.1).trans h3.hp, h3.hl.at_block (fun b hb => b4 b (h.ne.2.2 b hb).2.1), ⟨_, hmap⟩, h3.ht.elim fun n x => ⟨n, x.at_block (b4 mt (fun e => h.hm e.symm))⟩, h.hm⟩
    clear hw4 hmap hrun' keepS b4
    go_wp2_with fail
    go_ret
    exact ⟨rfl, h4, k4⟩

end Go.Proofs.Ytofdcmbjcpfabaa
