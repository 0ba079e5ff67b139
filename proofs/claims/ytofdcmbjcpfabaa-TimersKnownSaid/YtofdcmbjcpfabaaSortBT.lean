/- slices.Values at Thing Tm: all of a row, in its order. -/
import Derived.Test.YtofdcmbjcpfabaaSortAT
namespace Go.Proofs.Ytofdcmbjcpfabaa
open Go.RowKit Go.Shelf
attribute [local go_sem] Oper.semAt_some

set_option maxRecDepth 100000 in
set_option maxHeartbeats 4000000 in
theorem val1T_in (n : Nat) (hn : 1 ≤ n) (l Bs n₀ b cap : Nat) (xs : List (Thing Tm)) (hb : b < n₀) (hbig : xs.length ≤ 100000000000) (J Jx : List (Thing Tm) → World → Prop) (W : World) (hn0 : n₀ ≤ W.heap.size) (hJ : AbidesFrom W.heap.size J)
    (hY : ∀ pre x W1, J pre W1 → pre.length < xs.length → YieldAt Fence.wide (n - 1) Try.prog l #[.agg #[.int .i64 x.key, .int .i64 x.num, .int .i64 x.v.due, .string x.v.owner, .int .i64 x.v.id]] W1 fun e W' =>
      (e = .returned (.bool true) ∧ J (pre ++ [x]) W' ∧ Kp n₀ W1 W') ∨ (e = .returned (.bool false) ∧ Jx (pre ++ [x]) W'))
    (hBs : W.cell? ⟨Bs, 0, none⟩ = some (.slice (some ⟨b, 0, none⟩) xs.length cap)) (hrow : RowAt W 212 5 encT b cap xs) (h0 : J [] W) :
    CallsIn Fence.wide n Try.prog 199 #[.func (.yield l) #[] #[], .pointer (some ⟨Bs, 0, none⟩)] W (SeqPost (fun ys => ys = xs) (fun pre => pre <+: xs) J Jx) := by
  obtain ⟨len, hlen⟩ : ∃ len, xs.length = len := ⟨_, rfl⟩
  rw [hlen] at hBs
  have hlh : Hid (xs.length = len) := hlen
  have hbig' : len ≤ 100000000000 := by omega
  clear hlen hbig
  refine callsIn_of_wp Try.func199 rfl trivial ?_ rfl
  simp only [Try.ntmps199, List.size_toArray, List.length_cons, List.length_nil, Nat.reduceAdd, Nat.reduceSub, Array.replicate_succ, Array.replicate_zero, List.push_toArray, List.append_toArray, List.nil_append, List.cons_append]
  gi_wp2
  gi_loopw [7] (fun i wr => ∃ k : Nat, k ≤ len ∧ i = .int .i64 k ∧ J (xs.take k) wr ∧ Below n₀ W wr) (fun i _ => len - (intOf i).toNat)
  case atStart => exact ⟨0, Nat.zero_le _, rfl, by rw [List.take_zero]; exact h0, Below.refl _ _⟩
  case round =>
    obtain ⟨k, hk, rfl, hJs, hnx⟩ := hrel
    have k0 : (0 : Int) ≤ k := by omega
    by_cases hlt : (k : Int) < len
    · have hkl : k < xs.length := by rw [hlh.out]; omega
      have hr : RowAt wr 212 5 encT b cap xs := hrow.at_block (hnx.block b hb)
      obtain ⟨x, hx⟩ : ∃ x, xs[k] = x := ⟨_, rfl⟩
      have q0 := hr.cell encT_len hkl (j := 0) (by omega)
      have q1 := hr.cell encT_len hkl (j := 1) (by omega)
      have q2 := hr.cell encT_len hkl (j := 2) (by omega)
      have q3 := hr.cell encT_len hkl (j := 3) (by omega)
      have q4 := hr.cell encT_len hkl (j := 4) (by omega)
      rw [hx] at q0 q1 q2 q3 q4
      have r0 : wr.cell? ⟨b, k * 5, none⟩ = some (.int .i64 x.key) := q0
      have r1 : wr.cell? ⟨b, k * 5 + 1, none⟩ = some (.int .i64 x.num) := q1
      have r2 : wr.cell? ⟨b, k * 5 + 2, none⟩ = some (.int .i64 x.v.due) := q2
      have r3 : wr.cell? ⟨b, k * 5 + 3, none⟩ = some (.string x.v.owner) := q3
      have r4 : wr.cell? ⟨b, k * 5 + 4, none⟩ = some (.int .i64 x.v.id) := q4
      clear q0 q1 q2 q3 q4
      obtain ⟨o, ho⟩ : ∃ o : Obj, o = .cells #[.int .i64 x.key, .int .i64 x.num, .int .i64 x.v.due, .string x.v.owner, .int .i64 x.v.id] 212 := ⟨_, rfl⟩
      have hJa : J (xs.take k) (wr.alloc o) := hJ _ wr _ none hJs (World.grownBy_alloc wr o none) (fun r e => by cases e)
      obtain ⟨fn, tmps, assign, body, hy, hR⟩ := hY _ x _ hJa (by rw [List.length_take]; omega)
      subst ho
      have hxh : Hid (xs.take (k + 1) = xs.take k ++ [x]) := by show _ = _; rw [List.take_succ_eq_append_getElem hkl, hx]
      clear hx hr hY hrow
      gi_wp2
      refine hR.mono ?_
      rintro e W3 (⟨rfl, hJ3, hk3⟩ | ⟨rfl, hJx3⟩)
      · gi_wp2
        go_roundw
        case rel => exact ⟨k + 1, by omega, by go_num, by rw [hxh.out]; exact hJ3, (hnx.alloc (Nat.le_trans hn0 hnx.size) _).trans hk3.1⟩
        case measure => simp [intOf]; omega
      · gi_wp2
        refine bodyPost_ret (results_none rfl _ _ _) rfl ?_
        exact ⟨⟨_, rfl⟩, .inr ⟨_, (by rw [← hxh.out]; exact List.take_prefix _ _), hJx3⟩⟩
    · obtain rfl : k = len := by omega
      gi_wp2
      go_end0
      exact ⟨⟨_, rfl⟩, .inl ⟨_, List.take_of_length_le (Nat.le_of_eq hlh.out), hJs⟩⟩

set_option maxRecDepth 100000 in
set_option maxHeartbeats 1000000 in
theorem val1NilT_in (n : Nat) (l Bs : Nat) (J Jx : List (Thing Tm) → World → Prop) (W : World) (hBs : W.cell? ⟨Bs, 0, none⟩ = some (.slice none 0 0)) (h0 : J [] W) :
    CallsIn Fence.wide n Try.prog 199 #[.func (.yield l) #[] #[], .pointer (some ⟨Bs, 0, none⟩)] W (SeqPost (fun ys => ys = []) (fun pre => pre <+: []) J Jx) := by
  refine callsIn_of_wp Try.func199 rfl trivial ?_ rfl
  simp only [Try.ntmps199, List.size_toArray, List.length_cons, List.length_nil, Nat.reduceAdd, Nat.reduceSub, Array.replicate_succ, Array.replicate_zero, List.push_toArray, List.append_toArray, List.nil_append, List.cons_append]
  gi_wp2
  gi_loopw [7] (fun i wr => i = .int .i64 0 ∧ J [] wr) (fun _ _ => 0)
  case atStart => exact ⟨rfl, h0⟩
  case round =>
    obtain ⟨rfl, hJs⟩ := hrel
    gi_wp2
    go_end0
    exact ⟨⟨_, rfl⟩, .inl ⟨_, rfl, hJs⟩⟩

theorem valT_stops (n : Nat) (hn : 1 ≤ n) (Bs : Nat) (v : Value) (xs : List (Thing Tm)) (hbig : xs.length ≤ 100000000000) (w : World) (hBs : Bs < w.heap.size) (hc : w.cell? ⟨Bs, 0, none⟩ = some v) (n₀ : Nat) (hn0 : n₀ ≤ w.heap.size) (hrow : RowV w 212 5 encT v xs) (hlt : ∀ b, v.ownBlock = some b → b < n₀) (W0 : World) (hW0 : Below w.heap.size w W0) :
    SeqStopsK Fence.wide n Try.prog 199 #[.pointer (some ⟨Bs, 0, none⟩)] (fun x : Thing Tm => #[.agg #[.int .i64 x.key, .int .i64 x.num, .int .i64 x.v.due, .string x.v.owner, .int .i64 x.v.id]]) (Kp n₀) (fun ys => ys = xs) (fun pre => pre <+: xs) xs.length W0 := fun l J Jx W hW hJ _ hY h0 => by
  have hWw := hW0.trans (hW.mono hW0.size)
  have hc' := (hWw.cell (p := ⟨Bs, 0, none⟩) hBs).trans hc
  rcases hrow.form with ⟨rfl, rfl⟩ | ⟨b, cap, rfl⟩
  · exact val1NilT_in n l Bs J Jx W hc' h0
  · exact val1T_in n hn l Bs n₀ b cap xs (hlt b rfl) hbig J Jx W (Nat.le_trans hn0 hWw.size) hJ hY hc' (RowV.at_block hrow (fun b' hb' => by cases hb'; exact hWw.block b (Nat.lt_of_lt_of_le (hlt b rfl) hn0))) h0

set_option maxRecDepth 100000 in
theorem valuesT_c (v : Value) (a : Option Addr) (n c : Nat) (hv : v = .slice a n c) (w : World) : Calls Try.prog 179 #[v] w fun e w' => e = .returned (.func (.func 199) #[] #[.pointer (some ⟨w.heap.size, 0, none⟩)]) ∧ Hid (w' = w.alloc (.cells #[v] 213)) := by
  have hmf : ∀ (fn : Fn) (first cap : Array Value) (w : World), (Instr.makeFunc fn first cap).run Try.prog w = .ok (.func fn first cap) w := fun _ _ _ _ => rfl
  subst hv
  go_enter Try.func179, Try.ntmps179
  go_wp2
  go_ret
  exact ⟨rfl, rfl⟩

end Go.Proofs.Ytofdcmbjcpfabaa
