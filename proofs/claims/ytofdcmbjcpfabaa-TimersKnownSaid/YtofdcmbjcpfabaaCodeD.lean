/- Reading: what catches what a reader gives up with. -/
import Derived.Test.YtofdcmbjcpfabaaCodeR
import Derived.Defers
import Derived.Deep.RegionLaw
import Derived.Deep.RegionLawGrows
import Derived.Recover
namespace Go.Proofs.Ytofdcmbjcpfabaa
open Go.RowKit Go.Maps Go.MapKept Go.ChangeMaps
attribute [local go_sem ↓] Go.wp_at_zero Go.wp_at_succ

section
variable {P : Program} {ops : Array Oper} {Q : Exit → Act → List Frame → World → Prop} {a : Act} {cs cs2 : List Frame} {w w2 : World} {i : Nat} {rest : List Nat} {o : Oper} {v : Value}

/-- The walk of a region that may recover (a structure, so that nobody unfolds it). -/
structure OpsS (P : Program) (ops : Array Oper) (Q : Exit → Act → List Frame → World → Prop) (l : List Nat) (a : Act) (cs : List Frame) (w : World) : Prop where
  out : wpOpsS P ops Q l a cs w

theorem opsS_nil (h : Q .normal a cs w) : OpsS P ops Q [] a cs w := ⟨h⟩

theorem opsS_value (h : match ops[i]? with
    | some o => o.guard = none ∧ (match (execOp a.eval o).run P w with
      | .ok (.value v) w2 => OpsS P ops Q rest (a.put o.dst v) cs w2
      | .ok .skip w2 => OpsS P ops Q rest (a.put o.dst undef) cs w2
      | _ => False)
    | none => False) : OpsS P ops Q (i :: rest) a cs w := by
  cases ho : ops[i]? with
  | none => rw [ho] at h; exact h.elim
  | some o =>
    rw [ho] at h
    obtain ⟨hw, h⟩ := h
    have hw' : Region.wanted o (yielded ops a.tmps) = true := by simp [Region.wanted, hw]
    refine ⟨?_⟩
    simp only [wpOpsS, ho, hw', if_true]
    split at h
    · rename_i v w2 hr
      simp only [hr]
      exact h.out
    · rename_i w2 hr
      simp only [hr]
      exact h.out
    · exact h.elim

theorem opsS_recover (hc : recoverD cs = some (v, cs2)) (h : match ops[i]? with
    | some o => o.guard = none ∧ (execOp a.eval o).run P w = .ok .recover w ∧ OpsS P ops Q rest (a.put o.dst v) cs2 w
    | none => False) : OpsS P ops Q (i :: rest) a cs w := by
  cases ho : ops[i]? with
  | none => rw [ho] at h; exact h.elim
  | some o =>
    rw [ho] at h
    obtain ⟨hw, hr, ⟨h⟩⟩ := h
    have hw' : Region.wanted o (yielded ops a.tmps) = true := by simp [Region.wanted, hw]
    refine ⟨?_⟩
    simp only [wpOpsS, ho, hw', if_true, hr, hc]
    exact h

theorem opsS_idle (hc : recoverD cs = none) (h : match ops[i]? with
    | some o => o.guard = none ∧ (execOp a.eval o).run P w = .ok .recover w ∧ OpsS P ops Q rest (a.put o.dst .nilIface) cs w
    | none => False) : OpsS P ops Q (i :: rest) a cs w := by
  cases ho : ops[i]? with
  | none => rw [ho] at h; exact h.elim
  | some o =>
    rw [ho] at h
    obtain ⟨hw, hr, ⟨h⟩⟩ := h
    have hw' : Region.wanted o (yielded ops a.tmps) = true := by simp [Region.wanted, hw]
    refine ⟨?_⟩
    simp only [wpOpsS, ho, hw', if_true, hr, hc]
    exact h
end

theorem assert_flt (w : World) (V : Value) : (Instr.typeAssert (.iface 256 V) 20 256 true).run Try.prog w = .ok (.tuple #[V, .bool true]) w := by
  simp [Instr.typeAssert, run_underlying Try.underlying256, go_sem, Result.andThen]
  done

theorem assert_nil (w : World) : (Instr.typeAssert .nilIface 20 256 true).run Try.prog w = .ok (.tuple #[.agg #[.int .i64 0, .int .i64 0], .bool false]) w := by
  kernel_rfl

/-- What is left when the panic has been caught. -/
def CatchP (w : World) (X A E : Nat) (z : Value) (p : Nat) (e : Int) (w' : World) : Prop :=
  Keeps (fun b => b = X ∨ b = A ∨ b = E) w w' ∧ w'.cell? ⟨X, 0, none⟩ = some z ∧ w'.cell? ⟨A, 0, none⟩ = some (.int .i64 p) ∧ w'.cell? ⟨E, 0, none⟩ = some (.int .i64 e)

theorem CatchP.keep {w w1 w' : World} {X A E : Nat} {z : Value} {p : Nat} {e : Int} (h : CatchP w X A E z p e w1) (k : Keeps NoBlk w1 w') (h1 : X < A) (h2 : A < E) (h3 : E < w.heap.size) : CatchP w X A E z p e w' := by
  obtain ⟨m1, m2, m3, m4⟩ := h
  have hs := m1.size
  exact ⟨m1.trans k (fun _ _ x => x.elim), (k.cell (p := ⟨X, 0, none⟩) (by show X < _; omega) id).trans m2, (k.cell (p := ⟨A, 0, none⟩) (by show A < _; omega) id).trans m3, (k.cell (p := ⟨E, 0, none⟩) (by show E < _; omega) id).trans m4⟩

theorem CatchP.of {w w1 : World} {X A E : Nat} {x0 a0 e0 z : Value} {tx ta te : TypeId} {p : Nat} {e : Int} (hX : w1.heap[X]? = some (.cells #[x0] tx (0, 0))) (hA : w1.heap[A]? = some (.cells #[a0] ta (0, 0))) (hE : w1.heap[E]? = some (.cells #[e0] te (0, 0))) (h1 : X < A) (h2 : A < E) (k : Keeps NoBlk w w1) :
    CatchP w X A E z p e (((w1.setCell ⟨X, 0, none⟩ z).setCell ⟨A, 0, none⟩ (.int .i64 p)).setCell ⟨E, 0, none⟩ (.int .i64 e)).drew := by
  have b1 : (w1.setCell ⟨X, 0, none⟩ z).heap[X]? = some (.cells #[z] tx (0, 0)) := by rw [heap_setCell_same _ _ _ _ _ _ hX]; simp
  have k1 : Keeps (fun b => b = X) w1 (w1.setCell ⟨X, 0, none⟩ z) := (Keeps.refl (fun b => b = X) w1).setCell (fun _ => rfl) _
  have a1 := (k1.block A (block_lt hA) (by omega)).trans hA
  have e1 := (k1.block E (block_lt hE) (by omega)).trans hE
  obtain ⟨W1, hW1⟩ : ∃ W1, w1.setCell ⟨X, 0, none⟩ z = W1 := ⟨_, rfl⟩
  rw [hW1] at b1 k1 a1 e1 ⊢
  have a2 : (W1.setCell ⟨A, 0, none⟩ (.int .i64 p)).heap[A]? = some (.cells #[.int .i64 p] ta (0, 0)) := by rw [heap_setCell_same _ _ _ _ _ _ a1]; simp
  have k2 : Keeps (fun b => b = A) W1 (W1.setCell ⟨A, 0, none⟩ (.int .i64 p)) := (Keeps.refl (fun b => b = A) W1).setCell (fun _ => rfl) _
  have b2 := (k2.block X (block_lt b1) (by omega)).trans b1
  have e2 := (k2.block E (block_lt e1) (by omega)).trans e1
  obtain ⟨W2, hW2⟩ : ∃ W2, W1.setCell ⟨A, 0, none⟩ (.int .i64 p) = W2 := ⟨_, rfl⟩
  rw [hW2] at a2 k2 b2 e2 ⊢
  have e3 : (W2.setCell ⟨E, 0, none⟩ (.int .i64 e)).heap[E]? = some (.cells #[.int .i64 e] te (0, 0)) := by rw [heap_setCell_same _ _ _ _ _ _ e2]; simp
  have k3 : Keeps (fun b => b = E) W2 (W2.setCell ⟨E, 0, none⟩ (.int .i64 e)) := (Keeps.refl (fun b => b = E) W2).setCell (fun _ => rfl) _
  have b3 := (k3.block X (block_lt b2) (by omega)).trans b2
  have a3 := (k3.block A (block_lt a2) (by omega)).trans a2
  have m1 : Keeps (fun b => b = X ∨ b = A ∨ b = E) w w1 := k.of_none
  have m2 : Keeps (fun b => b = X ∨ b = A ∨ b = E) w W1 := m1.trans k1 (fun _ _ h => .inl h)
  have m3 : Keeps (fun b => b = X ∨ b = A ∨ b = E) w W2 := m2.trans k2 (fun _ _ h => .inr (.inl h))
  have m4 : Keeps (fun b => b = X ∨ b = A ∨ b = E) w (W2.setCell ⟨E, 0, none⟩ (.int .i64 e)) := m3.trans k3 (fun _ _ h => .inr (.inr h))
  refine ⟨m4.drew, ?_, ?_, ?_⟩
  · show (W2.setCell ⟨E, 0, none⟩ (.int .i64 e)).cell? _ = _
    rw [cell_of_row _ _ _ _ _ _ b3]; rfl
  · show (W2.setCell ⟨E, 0, none⟩ (.int .i64 e)).cell? _ = _
    rw [cell_of_row _ _ _ _ _ _ a3]; rfl
  · show (W2.setCell ⟨E, 0, none⟩ (.int .i64 e)).cell? _ = _
    rw [cell_of_row _ _ _ _ _ _ e3]; rfl

set_option maxRecDepth 100000 in
set_option maxHeartbeats 2000000 in
theorem catchU_panic {w : World} {X A E : Nat} {x0 a0 e0 : Value} (p : Nat) (e : Int) (older : List PanicEntry) (hX : w.heap[X]? = some (.cells #[x0] 178 (0, 0))) (hA : w.heap[A]? = some (.cells #[a0] 3 (0, 0))) (hE : w.heap[E]? = some (.cells #[e0] 25 (0, 0))) (hXA : X < A) (hAE : A < E) :
    CallsD Try.prog 183 #[.pointer (some ⟨X, 0, none⟩), .pointer (some ⟨A, 0, none⟩), .pointer (some ⟨E, 0, none⟩)] (.panicking (flt p e :: older)) w fun e' u' w' =>
      e' = .returned (.tuple #[]) ∧ u' = .panicking ({ flt p e with recovered := true } :: older) ∧ CatchP w X A E (.int .u64 0) p e w' := by
  refine callsD_of_wpS Try.func183 rfl fun c₀ cs hu => ?_
  unfold flt at hu
  have hrec : recoverD (c₀ :: cs) = some (.iface 256 (.agg #[.int .i64 p, .int .i64 e]), { c₀ with mode := .panicking ({ flt p e with recovered := true } :: older) } :: cs) := by
    unfold recoverD
    simp only [hu]
    rfl
  apply wpS_seq
  apply wpS_region
  simp only [Try.ntmps183, List.size_toArray, List.length_cons, List.length_nil, Nat.reduceAdd, Nat.reduceSub, Array.replicate_succ, Array.replicate_zero, List.push_toArray, List.append_toArray, List.nil_append, List.cons_append]
  refine OpsS.out (l := [0, 1, 2, 3, 4, 5, 6, 7]) ?_
  have hta := assert_flt w (.agg #[.int .i64 p, .int .i64 e])
  refine opsS_recover hrec ?_
  simp only [List.getElem?_toArray, List.getElem?_cons_zero]
  refine ⟨trivial, by simp [go_sem], ?_⟩
  refine opsS_value ?_
  simp only [List.getElem?_toArray, List.getElem?_cons_zero, List.getElem?_cons_succ]
  refine ⟨trivial, ?_⟩
  simp [go_sem, hta]
  refine opsS_value ?_
  simp only [List.getElem?_toArray, List.getElem?_cons_zero, List.getElem?_cons_succ]
  refine ⟨trivial, ?_⟩
  simp [go_sem]
  refine opsS_value ?_
  simp only [List.getElem?_toArray, List.getElem?_cons_zero, List.getElem?_cons_succ]
  refine ⟨trivial, ?_⟩
  simp [go_sem]
  refine opsS_value ?_
  simp only [List.getElem?_toArray, List.getElem?_cons_zero, List.getElem?_cons_succ]
  refine ⟨trivial, ?_⟩
  simp [go_sem]
  refine opsS_value ?_
  simp only [List.getElem?_toArray, List.getElem?_cons_zero, List.getElem?_cons_succ]
  refine ⟨trivial, ?_⟩
  simp [go_sem]
  refine opsS_value ?_
  simp only [List.getElem?_toArray, List.getElem?_cons_zero, List.getElem?_cons_succ]
  refine ⟨trivial, ?_⟩
  simp [go_sem]
  refine opsS_value ?_
  simp only [List.getElem?_toArray, List.getElem?_cons_zero, List.getElem?_cons_succ]
  refine ⟨trivial, ?_⟩
  simp [go_sem]
  refine opsS_nil ?_
  simp only [Exit.thenS]
  apply wpS_seq
  apply wpS_region
  refine OpsS.out (l := [0]) ?_
  refine opsS_value ?_
  simp only [List.getElem?_toArray, List.getElem?_cons_zero]
  refine ⟨trivial, ?_⟩
  simp [go_sem]
  refine opsS_nil ?_
  simp only [Exit.thenS]
  refine wpS_cond (t := true) (by simp [go_sem]) ?_
  simp only [if_true]
  refine wpS_of_wp ?_
  refine name_world ?_
  intro w1 hw1
  obtain ⟨D, hD⟩ : ∃ D, w.heap.size = D := ⟨_, rfl⟩
  have hXl := block_lt hX
  have hAl := block_lt hA
  have hEl := block_lt hE
  have k1 : Keeps NoBlk w w1 := by subst hw1; exact (Keeps.refl _ _).alloc _
  have hX1 := (k1.block X hXl id).trans hX
  have hA1 := (k1.block A hAl id).trans hA
  have hE1 := (k1.block E hEl id).trans hE
  have d0 : w1.cell? ⟨D, 0, none⟩ = some (.int .i64 p) := by subst hw1; rw [← hD]; simp [go_sem]
  have d1 : w1.cell? ⟨D, 1, none⟩ = some (.int .i64 e) := by subst hw1; rw [← hD]; simp [go_sem]
  have fX : w1.frozen? ⟨X, 0, none⟩ = false := frozen_of_row _ _ _ _ _ hX1
  have fA : w1.frozen? ⟨A, 0, none⟩ = false := frozen_of_row _ _ _ _ _ hA1
  have fE : w1.frozen? ⟨E, 0, none⟩ = false := frozen_of_row _ _ _ _ _ hE1
  have cX : w1.cell? ⟨X, 0, none⟩ = some x0 := by rw [cell_of_row _ _ _ _ _ _ hX1]; rfl
  have cA : w1.cell? ⟨A, 0, none⟩ = some a0 := by rw [cell_of_row _ _ _ _ _ _ hA1]; rfl
  have cE : w1.cell? ⟨E, 0, none⟩ = some e0 := by rw [cell_of_row _ _ _ _ _ _ hE1]; rfl
  have n1 : ¬ X = A := by omega
  have n2 : ¬ X = E := by omega
  have n3 : ¬ A = E := by omega
  have n4 : ¬ D = X := by omega
  have n5 : ¬ D = A := by omega
  have n6 : ¬ D = E := by omega
  have n1' : ¬ A = X := by omega
  have n2' : ¬ E = X := by omega
  have n3' : ¬ E = A := by omega
  have n4' : ¬ X = D := by omega
  have n5' : ¬ A = D := by omega
  have n6' : ¬ E = D := by omega
  have hfin : Hid (CatchP w X A E (.int .u64 0) p e (((w1.setCell ⟨X, 0, none⟩ (.int .u64 0)).setCell ⟨A, 0, none⟩ (.int .i64 p)).setCell ⟨E, 0, none⟩ (.int .i64 e)).drew) := CatchP.of hX1 hA1 hE1 hXA hAE k1
  rw [hD]
  clear hw1 hX hA hE hrec hta hD
  go_wp2_with fail
  go_region_law (fail)
  all_goals simp +zetaDelta [bodyPostS, results, Try.results183, flt]
  all_goals exact hfin.out

set_option maxRecDepth 100000 in
set_option maxHeartbeats 2000000 in
theorem catchU_idle {w : World} {X A E : Nat} :
    CallsD Try.prog 183 #[.pointer (some ⟨X, 0, none⟩), .pointer (some ⟨A, 0, none⟩), .pointer (some ⟨E, 0, none⟩)] .returning w fun e' u' w' =>
      e' = .returned (.tuple #[]) ∧ u' = .returning ∧ Keeps NoBlk w w' := by
  refine callsD_of_wpS Try.func183 rfl fun c₀ cs hu => ?_
  have hrec : recoverD (c₀ :: cs) = none := by
    unfold recoverD
    simp only [hu]
  apply wpS_seq
  apply wpS_region
  simp only [Try.ntmps183, List.size_toArray, List.length_cons, List.length_nil, Nat.reduceAdd, Nat.reduceSub, Array.replicate_succ, Array.replicate_zero, List.push_toArray, List.append_toArray, List.nil_append, List.cons_append]
  refine OpsS.out (l := [0, 1, 2, 3, 4, 5, 6, 7]) ?_
  have hta := assert_nil w
  refine opsS_idle hrec ?_
  simp only [List.getElem?_toArray, List.getElem?_cons_zero]
  refine ⟨trivial, by simp [go_sem], ?_⟩
  refine opsS_value ?_
  simp only [List.getElem?_toArray, List.getElem?_cons_zero, List.getElem?_cons_succ]
  refine ⟨trivial, ?_⟩
  simp [go_sem, hta]
  refine opsS_value ?_
  simp only [List.getElem?_toArray, List.getElem?_cons_zero, List.getElem?_cons_succ]
  refine ⟨trivial, ?_⟩
  simp [go_sem]
  refine opsS_value ?_
  simp only [List.getElem?_toArray, List.getElem?_cons_zero, List.getElem?_cons_succ]
  refine ⟨trivial, ?_⟩
  simp [go_sem]
  refine opsS_value ?_
  simp only [List.getElem?_toArray, List.getElem?_cons_zero, List.getElem?_cons_succ]
  refine ⟨trivial, ?_⟩
  simp [go_sem]
  refine opsS_value ?_
  simp only [List.getElem?_toArray, List.getElem?_cons_zero, List.getElem?_cons_succ]
  refine ⟨trivial, ?_⟩
  simp [go_sem]
  refine opsS_value ?_
  simp only [List.getElem?_toArray, List.getElem?_cons_zero, List.getElem?_cons_succ]
  refine ⟨trivial, ?_⟩
  simp [go_sem]
  refine opsS_value ?_
  simp only [List.getElem?_toArray, List.getElem?_cons_zero, List.getElem?_cons_succ]
  refine ⟨trivial, ?_⟩
  simp [go_sem]
  refine opsS_nil ?_
  simp only [Exit.thenS]
  apply wpS_seq
  apply wpS_region
  refine OpsS.out (l := [0]) ?_
  refine opsS_value ?_
  simp only [List.getElem?_toArray, List.getElem?_cons_zero]
  refine ⟨trivial, ?_⟩
  simp [go_sem]
  refine opsS_nil ?_
  simp only [Exit.thenS]
  refine wpS_cond (t := false) (by simp [go_sem]) ?_
  simp only [Bool.false_eq_true, if_false]
  refine wpS_of_wp (wp_skip ?_)
  have hk : Hid (∀ o, Keeps NoBlk w (w.alloc o)) := fun o => (Keeps.refl _ _).alloc _
  simp [bodyPostS, results, Try.results183]
  exact ⟨_, rfl, hu, hk.out _⟩

set_option maxRecDepth 100000 in
set_option maxHeartbeats 2000000 in
theorem catchI_panic {w : World} {X A E : Nat} {x0 a0 e0 : Value} (p : Nat) (e : Int) (older : List PanicEntry) (hX : w.heap[X]? = some (.cells #[x0] 2 (0, 0))) (hA : w.heap[A]? = some (.cells #[a0] 3 (0, 0))) (hE : w.heap[E]? = some (.cells #[e0] 25 (0, 0))) (hXA : X < A) (hAE : A < E) :
    CallsD Try.prog 202 #[.pointer (some ⟨X, 0, none⟩), .pointer (some ⟨A, 0, none⟩), .pointer (some ⟨E, 0, none⟩)] (.panicking (flt p e :: older)) w fun e' u' w' =>
      e' = .returned (.tuple #[]) ∧ u' = .panicking ({ flt p e with recovered := true } :: older) ∧ CatchP w X A E (.int .i64 0) p e w' := by
  refine callsD_of_wpS Try.func202 rfl fun c₀ cs hu => ?_
  unfold flt at hu
  have hrec : recoverD (c₀ :: cs) = some (.iface 256 (.agg #[.int .i64 p, .int .i64 e]), { c₀ with mode := .panicking ({ flt p e with recovered := true } :: older) } :: cs) := by
    unfold recoverD
    simp only [hu]
    rfl
  apply wpS_seq
  apply wpS_region
  simp only [Try.ntmps202, List.size_toArray, List.length_cons, List.length_nil, Nat.reduceAdd, Nat.reduceSub, Array.replicate_succ, Array.replicate_zero, List.push_toArray, List.append_toArray, List.nil_append, List.cons_append]
  refine OpsS.out (l := [0, 1, 2, 3, 4, 5, 6, 7]) ?_
  have hta := assert_flt w (.agg #[.int .i64 p, .int .i64 e])
  refine opsS_recover hrec ?_
  simp only [List.getElem?_toArray, List.getElem?_cons_zero]
  refine ⟨trivial, by simp [go_sem], ?_⟩
  refine opsS_value ?_
  simp only [List.getElem?_toArray, List.getElem?_cons_zero, List.getElem?_cons_succ]
  refine ⟨trivial, ?_⟩
  simp [go_sem, hta]
  refine opsS_value ?_
  simp only [List.getElem?_toArray, List.getElem?_cons_zero, List.getElem?_cons_succ]
  refine ⟨trivial, ?_⟩
  simp [go_sem]
  refine opsS_value ?_
  simp only [List.getElem?_toArray, List.getElem?_cons_zero, List.getElem?_cons_succ]
  refine ⟨trivial, ?_⟩
  simp [go_sem]
  refine opsS_value ?_
  simp only [List.getElem?_toArray, List.getElem?_cons_zero, List.getElem?_cons_succ]
  refine ⟨trivial, ?_⟩
  simp [go_sem]
  refine opsS_value ?_
  simp only [List.getElem?_toArray, List.getElem?_cons_zero, List.getElem?_cons_succ]
  refine ⟨trivial, ?_⟩
  simp [go_sem]
  refine opsS_value ?_
  simp only [List.getElem?_toArray, List.getElem?_cons_zero, List.getElem?_cons_succ]
  refine ⟨trivial, ?_⟩
  simp [go_sem]
  refine opsS_value ?_
  simp only [List.getElem?_toArray, List.getElem?_cons_zero, List.getElem?_cons_succ]
  refine ⟨trivial, ?_⟩
  simp [go_sem]
  refine opsS_nil ?_
  simp only [Exit.thenS]
  apply wpS_seq
  apply wpS_region
  refine OpsS.out (l := [0]) ?_
  refine opsS_value ?_
  simp only [List.getElem?_toArray, List.getElem?_cons_zero]
  refine ⟨trivial, ?_⟩
  simp [go_sem]
  refine opsS_nil ?_
  simp only [Exit.thenS]
  refine wpS_cond (t := true) (by simp [go_sem]) ?_
  simp only [if_true]
  refine wpS_of_wp ?_
  refine name_world ?_
  intro w1 hw1
  obtain ⟨D, hD⟩ : ∃ D, w.heap.size = D := ⟨_, rfl⟩
  have hXl := block_lt hX
  have hAl := block_lt hA
  have hEl := block_lt hE
  have k1 : Keeps NoBlk w w1 := by subst hw1; exact (Keeps.refl _ _).alloc _
  have hX1 := (k1.block X hXl id).trans hX
  have hA1 := (k1.block A hAl id).trans hA
  have hE1 := (k1.block E hEl id).trans hE
  have d0 : w1.cell? ⟨D, 0, none⟩ = some (.int .i64 p) := by subst hw1; rw [← hD]; simp [go_sem]
  have d1 : w1.cell? ⟨D, 1, none⟩ = some (.int .i64 e) := by subst hw1; rw [← hD]; simp [go_sem]
  have fX : w1.frozen? ⟨X, 0, none⟩ = false := frozen_of_row _ _ _ _ _ hX1
  have fA : w1.frozen? ⟨A, 0, none⟩ = false := frozen_of_row _ _ _ _ _ hA1
  have fE : w1.frozen? ⟨E, 0, none⟩ = false := frozen_of_row _ _ _ _ _ hE1
  have cX : w1.cell? ⟨X, 0, none⟩ = some x0 := by rw [cell_of_row _ _ _ _ _ _ hX1]; rfl
  have cA : w1.cell? ⟨A, 0, none⟩ = some a0 := by rw [cell_of_row _ _ _ _ _ _ hA1]; rfl
  have cE : w1.cell? ⟨E, 0, none⟩ = some e0 := by rw [cell_of_row _ _ _ _ _ _ hE1]; rfl
  have n1 : ¬ X = A := by omega
  have n2 : ¬ X = E := by omega
  have n3 : ¬ A = E := by omega
  have n4 : ¬ D = X := by omega
  have n5 : ¬ D = A := by omega
  have n6 : ¬ D = E := by omega
  have n1' : ¬ A = X := by omega
  have n2' : ¬ E = X := by omega
  have n3' : ¬ E = A := by omega
  have n4' : ¬ X = D := by omega
  have n5' : ¬ A = D := by omega
  have n6' : ¬ E = D := by omega
  have hfin : Hid (CatchP w X A E (.int .i64 0) p e (((w1.setCell ⟨X, 0, none⟩ (.int .i64 0)).setCell ⟨A, 0, none⟩ (.int .i64 p)).setCell ⟨E, 0, none⟩ (.int .i64 e)).drew) := CatchP.of hX1 hA1 hE1 hXA hAE k1
  rw [hD]
  clear hw1 hX hA hE hrec hta hD
  go_wp2_with fail
  go_region_law (fail)
  all_goals simp +zetaDelta [bodyPostS, results, Try.results202, flt]
  all_goals exact hfin.out

set_option maxRecDepth 100000 in
set_option maxHeartbeats 2000000 in
theorem catchI_idle {w : World} {X A E : Nat} :
    CallsD Try.prog 202 #[.pointer (some ⟨X, 0, none⟩), .pointer (some ⟨A, 0, none⟩), .pointer (some ⟨E, 0, none⟩)] .returning w fun e' u' w' =>
      e' = .returned (.tuple #[]) ∧ u' = .returning ∧ Keeps NoBlk w w' := by
  refine callsD_of_wpS Try.func202 rfl fun c₀ cs hu => ?_
  have hrec : recoverD (c₀ :: cs) = none := by
    unfold recoverD
    simp only [hu]
  apply wpS_seq
  apply wpS_region
  simp only [Try.ntmps202, List.size_toArray, List.length_cons, List.length_nil, Nat.reduceAdd, Nat.reduceSub, Array.replicate_succ, Array.replicate_zero, List.push_toArray, List.append_toArray, List.nil_append, List.cons_append]
  refine OpsS.out (l := [0, 1, 2, 3, 4, 5, 6, 7]) ?_
  have hta := assert_nil w
  refine opsS_idle hrec ?_
  simp only [List.getElem?_toArray, List.getElem?_cons_zero]
  refine ⟨trivial, by simp [go_sem], ?_⟩
  refine opsS_value ?_
  simp only [List.getElem?_toArray, List.getElem?_cons_zero, List.getElem?_cons_succ]
  refine ⟨trivial, ?_⟩
  simp [go_sem, hta]
  refine opsS_value ?_
  simp only [List.getElem?_toArray, List.getElem?_cons_zero, List.getElem?_cons_succ]
  refine ⟨trivial, ?_⟩
  simp [go_sem]
  refine opsS_value ?_
  simp only [List.getElem?_toArray, List.getElem?_cons_zero, List.getElem?_cons_succ]
  refine ⟨trivial, ?_⟩
  simp [go_sem]
  refine opsS_value ?_
  simp only [List.getElem?_toArray, List.getElem?_cons_zero, List.getElem?_cons_succ]
  refine ⟨trivial, ?_⟩
  simp [go_sem]
  refine opsS_value ?_
  simp only [List.getElem?_toArray, List.getElem?_cons_zero, List.getElem?_cons_succ]
  refine ⟨trivial, ?_⟩
  simp [go_sem]
  refine opsS_value ?_
  simp only [List.getElem?_toArray, List.getElem?_cons_zero, List.getElem?_cons_succ]
  refine ⟨trivial, ?_⟩
  simp [go_sem]
  refine opsS_value ?_
  simp only [List.getElem?_toArray, List.getElem?_cons_zero, List.getElem?_cons_succ]
  refine ⟨trivial, ?_⟩
  simp [go_sem]
  refine opsS_nil ?_
  simp only [Exit.thenS]
  apply wpS_seq
  apply wpS_region
  refine OpsS.out (l := [0]) ?_
  refine opsS_value ?_
  simp only [List.getElem?_toArray, List.getElem?_cons_zero]
  refine ⟨trivial, ?_⟩
  simp [go_sem]
  refine opsS_nil ?_
  simp only [Exit.thenS]
  refine wpS_cond (t := false) (by simp [go_sem]) ?_
  simp only [Bool.false_eq_true, if_false]
  refine wpS_of_wp (wp_skip ?_)
  have hk : Hid (∀ o, Keeps NoBlk w (w.alloc o)) := fun o => (Keeps.refl _ _).alloc _
  simp [bodyPostS, results, Try.results202]
  exact ⟨_, rfl, hu, hk.out _⟩

set_option maxRecDepth 100000 in
set_option maxHeartbeats 2000000 in
theorem catchT_panic {w : World} {X A E : Nat} {x0 a0 e0 : Value} (p : Nat) (e : Int) (older : List PanicEntry) (hX : w.heap[X]? = some (.cells #[x0] 9 (0, 0))) (hA : w.heap[A]? = some (.cells #[a0] 3 (0, 0))) (hE : w.heap[E]? = some (.cells #[e0] 25 (0, 0))) (hXA : X < A) (hAE : A < E) :
    CallsD Try.prog 203 #[.pointer (some ⟨X, 0, none⟩), .pointer (some ⟨A, 0, none⟩), .pointer (some ⟨E, 0, none⟩)] (.panicking (flt p e :: older)) w fun e' u' w' =>
      e' = .returned (.tuple #[]) ∧ u' = .panicking ({ flt p e with recovered := true } :: older) ∧ CatchP w X A E (.string ⟨#[]⟩) p e w' := by
  refine callsD_of_wpS Try.func203 rfl fun c₀ cs hu => ?_
  unfold flt at hu
  have hrec : recoverD (c₀ :: cs) = some (.iface 256 (.agg #[.int .i64 p, .int .i64 e]), { c₀ with mode := .panicking ({ flt p e with recovered := true } :: older) } :: cs) := by
    unfold recoverD
    simp only [hu]
    rfl
  apply wpS_seq
  apply wpS_region
  simp only [Try.ntmps203, List.size_toArray, List.length_cons, List.length_nil, Nat.reduceAdd, Nat.reduceSub, Array.replicate_succ, Array.replicate_zero, List.push_toArray, List.append_toArray, List.nil_append, List.cons_append]
  refine OpsS.out (l := [0, 1, 2, 3, 4, 5, 6, 7]) ?_
  have hta := assert_flt w (.agg #[.int .i64 p, .int .i64 e])
  refine opsS_recover hrec ?_
  simp only [List.getElem?_toArray, List.getElem?_cons_zero]
  refine ⟨trivial, by simp [go_sem], ?_⟩
  refine opsS_value ?_
  simp only [List.getElem?_toArray, List.getElem?_cons_zero, List.getElem?_cons_succ]
  refine ⟨trivial, ?_⟩
  simp [go_sem, hta]
  refine opsS_value ?_
  simp only [List.getElem?_toArray, List.getElem?_cons_zero, List.getElem?_cons_succ]
  refine ⟨trivial, ?_⟩
  simp [go_sem]
  refine opsS_value ?_
  simp only [List.getElem?_toArray, List.getElem?_cons_zero, List.getElem?_cons_succ]
  refine ⟨trivial, ?_⟩
  simp [go_sem]
  refine opsS_value ?_
  simp only [List.getElem?_toArray, List.getElem?_cons_zero, List.getElem?_cons_succ]
  refine ⟨trivial, ?_⟩
  simp [go_sem]
  refine opsS_value ?_
  simp only [List.getElem?_toArray, List.getElem?_cons_zero, List.getElem?_cons_succ]
  refine ⟨trivial, ?_⟩
  simp [go_sem]
  refine opsS_value ?_
  simp only [List.getElem?_toArray, List.getElem?_cons_zero, List.getElem?_cons_succ]
  refine ⟨trivial, ?_⟩
  simp [go_sem]
  refine opsS_value ?_
  simp only [List.getElem?_toArray, List.getElem?_cons_zero, List.getElem?_cons_succ]
  refine ⟨trivial, ?_⟩
  simp [go_sem]
  refine opsS_nil ?_
  simp only [Exit.thenS]
  apply wpS_seq
  apply wpS_region
  refine OpsS.out (l := [0]) ?_
  refine opsS_value ?_
  simp only [List.getElem?_toArray, List.getElem?_cons_zero]
  refine ⟨trivial, ?_⟩
  simp [go_sem]
  refine opsS_nil ?_
  simp only [Exit.thenS]
  refine wpS_cond (t := true) (by simp [go_sem]) ?_
  simp only [if_true]
  refine wpS_of_wp ?_
  refine name_world ?_
  intro w1 hw1
  obtain ⟨D, hD⟩ : ∃ D, w.heap.size = D := ⟨_, rfl⟩
  have hXl := block_lt hX
  have hAl := block_lt hA
  have hEl := block_lt hE
  have k1 : Keeps NoBlk w w1 := by subst hw1; exact (Keeps.refl _ _).alloc _
  have hX1 := (k1.block X hXl id).trans hX
  have hA1 := (k1.block A hAl id).trans hA
  have hE1 := (k1.block E hEl id).trans hE
  have d0 : w1.cell? ⟨D, 0, none⟩ = some (.int .i64 p) := by subst hw1; rw [← hD]; simp [go_sem]
  have d1 : w1.cell? ⟨D, 1, none⟩ = some (.int .i64 e) := by subst hw1; rw [← hD]; simp [go_sem]
  have fX : w1.frozen? ⟨X, 0, none⟩ = false := frozen_of_row _ _ _ _ _ hX1
  have fA : w1.frozen? ⟨A, 0, none⟩ = false := frozen_of_row _ _ _ _ _ hA1
  have fE : w1.frozen? ⟨E, 0, none⟩ = false := frozen_of_row _ _ _ _ _ hE1
  have cX : w1.cell? ⟨X, 0, none⟩ = some x0 := by rw [cell_of_row _ _ _ _ _ _ hX1]; rfl
  have cA : w1.cell? ⟨A, 0, none⟩ = some a0 := by rw [cell_of_row _ _ _ _ _ _ hA1]; rfl
  have cE : w1.cell? ⟨E, 0, none⟩ = some e0 := by rw [cell_of_row _ _ _ _ _ _ hE1]; rfl
  have n1 : ¬ X = A := by omega
  have n2 : ¬ X = E := by omega
  have n3 : ¬ A = E := by omega
  have n4 : ¬ D = X := by omega
  have n5 : ¬ D = A := by omega
  have n6 : ¬ D = E := by omega
  have n1' : ¬ A = X := by omega
  have n2' : ¬ E = X := by omega
  have n3' : ¬ E = A := by omega
  have n4' : ¬ X = D := by omega
  have n5' : ¬ A = D := by omega
  have n6' : ¬ E = D := by omega
  have hfin : Hid (CatchP w X A E (.string ⟨#[]⟩) p e (((w1.setCell ⟨X, 0, none⟩ (.string ⟨#[]⟩)).setCell ⟨A, 0, none⟩ (.int .i64 p)).setCell ⟨E, 0, none⟩ (.int .i64 e)).drew) := CatchP.of hX1 hA1 hE1 hXA hAE k1
  rw [hD]
  clear hw1 hX hA hE hrec hta hD
  go_wp2_with fail
  go_region_law (fail)
  all_goals simp +zetaDelta [bodyPostS, results, Try.results203, flt]
  all_goals exact hfin.out

set_option maxRecDepth 100000 in
set_option maxHeartbeats 2000000 in
theorem catchT_idle {w : World} {X A E : Nat} :
    CallsD Try.prog 203 #[.pointer (some ⟨X, 0, none⟩), .pointer (some ⟨A, 0, none⟩), .pointer (some ⟨E, 0, none⟩)] .returning w fun e' u' w' =>
      e' = .returned (.tuple #[]) ∧ u' = .returning ∧ Keeps NoBlk w w' := by
  refine callsD_of_wpS Try.func203 rfl fun c₀ cs hu => ?_
  have hrec : recoverD (c₀ :: cs) = none := by
    unfold recoverD
    simp only [hu]
  apply wpS_seq
  apply wpS_region
  simp only [Try.ntmps203, List.size_toArray, List.length_cons, List.length_nil, Nat.reduceAdd, Nat.reduceSub, Array.replicate_succ, Array.replicate_zero, List.push_toArray, List.append_toArray, List.nil_append, List.cons_append]
  refine OpsS.out (l := [0, 1, 2, 3, 4, 5, 6, 7]) ?_
  have hta := assert_nil w
  refine opsS_idle hrec ?_
  simp only [List.getElem?_toArray, List.getElem?_cons_zero]
  refine ⟨trivial, by simp [go_sem], ?_⟩
  refine opsS_value ?_
  simp only [List.getElem?_toArray, List.getElem?_cons_zero, List.getElem?_cons_succ]
  refine ⟨trivial, ?_⟩
  simp [go_sem, hta]
  refine opsS_value ?_
  simp only [List.getElem?_toArray, List.getElem?_cons_zero, List.getElem?_cons_succ]
  refine ⟨trivial, ?_⟩
  simp [go_sem]
  refine opsS_value ?_
  simp only [List.getElem?_toArray, List.getElem?_cons_zero, List.getElem?_cons_succ]
  refine ⟨trivial, ?_⟩
  simp [go_sem]
  refine opsS_value ?_
  simp only [List.getElem?_toArray, List.getElem?_cons_zero, List.getElem?_cons_succ]
  refine ⟨trivial, ?_⟩
  simp [go_sem]
  refine opsS_value ?_
  simp only [List.getElem?_toArray, List.getElem?_cons_zero, List.getElem?_cons_succ]
  refine ⟨trivial, ?_⟩
  simp [go_sem]
  refine opsS_value ?_
  simp only [List.getElem?_toArray, List.getElem?_cons_zero, List.getElem?_cons_succ]
  refine ⟨trivial, ?_⟩
  simp [go_sem]
  refine opsS_value ?_
  simp only [List.getElem?_toArray, List.getElem?_cons_zero, List.getElem?_cons_succ]
  refine ⟨trivial, ?_⟩
  simp [go_sem]
  refine opsS_nil ?_
  simp only [Exit.thenS]
  apply wpS_seq
  apply wpS_region
  refine OpsS.out (l := [0]) ?_
  refine opsS_value ?_
  simp only [List.getElem?_toArray, List.getElem?_cons_zero]
  refine ⟨trivial, ?_⟩
  simp [go_sem]
  refine opsS_nil ?_
  simp only [Exit.thenS]
  refine wpS_cond (t := false) (by simp [go_sem]) ?_
  simp only [Bool.false_eq_true, if_false]
  refine wpS_of_wp (wp_skip ?_)
  have hk : Hid (∀ o, Keeps NoBlk w (w.alloc o)) := fun o => (Keeps.refl _ _).alloc _
  simp [bodyPostS, results, Try.results203]
  exact ⟨_, rfl, hu, hk.out _⟩


theorem name_calls0 {P : Program} {f : FuncId} {args : Array Value} {Q : Ending → World → Prop} {w : World} (h : ∀ w1, w1 = w → Calls P f args w1 Q) : Calls P f args w Q := h w rfl

/-- What a reader's function does. -/
def DoP (W : World) (r : Nat) (v Rv zero : Value) (q : Nat) (er : Int) (e : Ending) (W' : World) : Prop :=
  Keeps (fun b => b = r) W W' ∧ ((er = 0 ∧ e = .returned Rv ∧ IsRd W' r v q) ∨ (er ≠ 0 ∧ Rv = zero ∧ e = .panicked [flt q er]))

set_option maxRecDepth 100000 in
set_option maxHeartbeats 2000000 in
theorem readU_c {w : World} {a : Option Addr} {n cap : Nat} (g : Nat) (x : Int) (q : Nat) (er : Int) (eg : ∀ args w, (callFunc g args).run Try.prog w = .ok (.enter g args) w)
    (hdo : ∀ W r, Keeps NoBlk w W → w.heap.size ≤ r → IsRd W r (.slice a n cap) 0 → Calls Try.prog g #[.pointer (some ⟨r, 0, none⟩)] W (DoP W r (.slice a n cap) (.int .u64 x) (.int .u64 0) q er)) :
    Calls Try.prog 156 #[.slice a n cap, .func (.func g) #[] #[]] w fun e w' => e = .returned (.tuple #[.int .u64 x, .int .i64 q, .int .i64 er]) ∧ Keeps NoBlk w w' := by
  have hmf : ∀ (fn : Fn) (first cap : Array Value) (w : World), (Instr.makeFunc fn first cap).run Try.prog w = .ok (.func fn first cap) w := fun _ _ _ _ => rfl
  obtain ⟨B, hB⟩ : ∃ B, w.heap.size = B := ⟨_, rfl⟩
  go_enter_defers Try.func156, Try.ntmps156
  go_wp2_with fail
  refine name_calls0 ?_
  intro w1 hw1
  have k1 : Keeps NoBlk w w1 := by subst hw1; exact ((((Keeps.refl _ _).alloc _).alloc _).alloc _).alloc _
  have s1 : w1.heap.size = B + 1 + 1 + 1 + 1 := by subst hw1; simp [hB]
  have bX : w1.heap[B]? = some (.cells #[.int .u64 0] 178 (0, 0)) := by
    subst hw1
    rw [heap_alloc_old _ _ (by simp; omega), heap_alloc_old _ _ (by simp; omega), heap_alloc_old _ _ (by simp; omega), ← hB]
    exact heap_alloc_new _ _
  have bA : w1.heap[B + 1]? = some (.cells #[.int .i64 0] 3 (0, 0)) := by
    subst hw1
    rw [heap_alloc_old _ _ (by simp; omega), heap_alloc_old _ _ (by simp; omega)]
    have := heap_alloc_new (w.alloc (.cells #[.int .u64 0] 178)) (.cells #[.int .i64 0] 3)
    rw [show (w.alloc (.cells #[.int .u64 0] 178)).heap.size = B + 1 by simp [hB]] at this
    exact this
  have bE : w1.heap[B + 1 + 1]? = some (.cells #[.int .i64 0] 25 (0, 0)) := by
    subst hw1
    rw [heap_alloc_old _ _ (by simp; omega)]
    have := heap_alloc_new ((w.alloc (.cells #[.int .u64 0] 178)).alloc (.cells #[.int .i64 0] 3)) (.cells #[.int .i64 0] 25)
    rw [show ((w.alloc (.cells #[.int .u64 0] 178)).alloc (.cells #[.int .i64 0] 3)).heap.size = B + 1 + 1 by simp [hB]] at this
    exact this
  have bR : IsRd w1 (B + 1 + 1 + 1) (.slice a n cap) 0 := by
    subst hw1
    refine ⟨?_⟩
    have := heap_alloc_new (((w.alloc (.cells #[.int .u64 0] 178)).alloc (.cells #[.int .i64 0] 3)).alloc (.cells #[.int .i64 0] 25)) (.cells #[.slice a n cap, .int .i64 0] 259)
    rw [show (((w.alloc (.cells #[.int .u64 0] 178)).alloc (.cells #[.int .i64 0] 3)).alloc (.cells #[.int .i64 0] 25)).heap.size = B + 1 + 1 + 1 by simp [hB]] at this
    exact this
  have hcall := hdo w1 _ k1 (by omega) bR
  clear hw1 hdo
  generalize hA1 : B + 1 = A at s1 bA bE bR hcall ⊢
  generalize hE1 : A + 1 = E at s1 bE bR hcall ⊢
  generalize hR1 : E + 1 = R at s1 bR hcall ⊢
  have n1 : ¬ B = A := by omega
  have n2 : ¬ B = E := by omega
  have n3 : ¬ A = E := by omega
  have n4 : ¬ R = B := by omega
  have n5 : ¬ R = A := by omega
  have n6 : ¬ R = E := by omega
  have n1' : ¬ A = B := by omega
  have n2' : ¬ E = B := by omega
  have n3' : ¬ E = A := by omega
  have n4' : ¬ B = R := by omega
  have n5' : ¬ A = R := by omega
  have n6' : ¬ E = R := by omega
  have hBA : B < A := by omega
  have hBR : B < R := by omega
  have hAE : A < E := by omega
  have hBw : Hid (w.heap.size ≤ B) := by show _ ≤ _; omega
  replace hB : Hid (w.heap.size = B) := hB
  replace hA1 : Hid (B + 1 = A) := hA1
  replace hE1 : Hid (A + 1 = E) := hE1
  replace hR1 : Hid (E + 1 = R) := hR1
  refine hcall.mono ?_
  intro e w2 hdp
  obtain ⟨k2, hc⟩ := hdp
  have bX2 := (k2.block B (block_lt bX) (by omega)).trans bX
  have bA2 := (k2.block (A) (block_lt bA) (by omega)).trans bA
  have bE2 := (k2.block (E) (block_lt bE) (by omega)).trans bE
  have k12 : Keeps NoBlk w w2 := k1.trans k2 (fun b hb e => by have := hBw.out; omega)

  clear hcall bX bA bE
  have sE := block_lt bE2
  rcases hc with ⟨h0, rfl, hR2⟩ | ⟨h0, hz, rfl⟩
  · subst h0
    obtain ⟨rc0, rc1, _, _⟩ := hR2.cells
    have cX0 : w2.cell? ⟨B, 0, none⟩ = some (.int .u64 0) := by rw [cell_of_row _ _ _ _ _ _ bX2]; rfl
    have fX0 : w2.frozen? ⟨B, 0, none⟩ = false := frozen_of_row _ _ _ _ _ bX2
    go_wp2_with fail
    refine name_world ?_
    intro w3 hw3
    have k3 : Keeps (fun b => b = B) w2 w3 := by subst hw3; exact (Keeps.refl (fun b => b = B) w2).setCell (fun _ => rfl) _
    have bX3 : w3.heap[B]? = some (.cells #[.int .u64 x] 178 (0, 0)) := by subst hw3; rw [heap_setCell_same _ _ _ _ _ _ bX2]; simp
    have bA3 := (k3.block (A) (block_lt bA2) (by omega)).trans bA2
    have bE3 := (k3.block (E) (block_lt bE2) (by omega)).trans bE2
    have rc3 := (k3.cell (p := ⟨R, 1, none⟩) (block_lt hR2.hp) n4).trans rc1
    have k13 : Keeps NoBlk w w3 := k12.trans k3 (fun b hb e => by have := hBw.out; omega)
    have cX : w3.cell? ⟨B, 0, none⟩ = some (.int .u64 x) := by rw [cell_of_row _ _ _ _ _ _ bX3]; rfl
    have fX : w3.frozen? ⟨B, 0, none⟩ = false := frozen_of_row _ _ _ _ _ bX3
    have cA : w3.cell? ⟨A, 0, none⟩ = some (.int .i64 0) := by rw [cell_of_row _ _ _ _ _ _ bA3]; rfl
    have fA : w3.frozen? ⟨A, 0, none⟩ = false := frozen_of_row _ _ _ _ _ bA3
    have cE : w3.cell? ⟨E, 0, none⟩ = some (.int .i64 0) := by rw [cell_of_row _ _ _ _ _ _ bE3]; rfl
    have fE : w3.frozen? ⟨E, 0, none⟩ = false := frozen_of_row _ _ _ _ _ bE3
    have hfin : Hid (CatchP w3 B (A) (E) (.int .u64 x) q 0 (((w3.setCell ⟨B, 0, none⟩ (.int .u64 x)).setCell ⟨A, 0, none⟩ (.int .i64 q)).setCell ⟨E, 0, none⟩ (.int .i64 0)).drew) := CatchP.of bX3 bA3 bE3 (by omega) (by omega) (Keeps.refl _ _)
    have hsz : Hid (E < w3.heap.size) := block_lt bE3
    clear hw3 bX2 bA2 bE2 rc0 rc1 cX0 fX0 hR2 k2 k1 k3 bX3 bA3 bE3 k12
    go_region
    all_goals
      go_wp2_with fail
      refine leaves_cons (f := 183) (args := #[.pointer (some ⟨B, 0, none⟩), .pointer (some ⟨A, 0, none⟩), .pointer (some ⟨E, 0, none⟩)]) (by simp) (by simp [go_sem]) ?_
      refine catchU_idle.mono ?_
      rintro e u' w4 ⟨rfl, rfl, k4⟩
      obtain ⟨m1, m2, m3, m4⟩ := (hfin.out.keep k4 (by omega) (by omega) hsz.out)
      have hk4 : Hid (Keeps NoBlk w w4) := k13.trans m1 (fun b hb e => by have := hBw.out; omega)
      clear hfin
      simp [Leaves, settle, results, Try.results156, go_sem, m2, m3, m4]
      exact hk4.out
  · cases hz
    go_wp2_with fail
    refine leaves_cons (f := 183) (args := #[.pointer (some ⟨B, 0, none⟩), .pointer (some ⟨A, 0, none⟩), .pointer (some ⟨E, 0, none⟩)]) (by simp) (by simp [go_sem]) ?_
    refine (catchU_panic q er [] bX2 bA2 bE2 (by omega) (by omega)).mono ?_
    rintro e u' w4 ⟨rfl, rfl, m1, m2, m3, m4⟩
    have hk4 : Hid (Keeps NoBlk w w4) := k12.trans m1 (fun b hb e => by have := hBw.out; omega)
    simp [Leaves, settle, results, Try.results156, go_sem, m2, m3, m4]
    exact hk4.out

set_option maxRecDepth 100000 in
set_option maxHeartbeats 2000000 in
theorem readI_c {w : World} {a : Option Addr} {n cap : Nat} (g : Nat) (x : Int) (q : Nat) (er : Int) (eg : ∀ args w, (callFunc g args).run Try.prog w = .ok (.enter g args) w)
    (hdo : ∀ W r, Keeps NoBlk w W → w.heap.size ≤ r → IsRd W r (.slice a n cap) 0 → Calls Try.prog g #[.pointer (some ⟨r, 0, none⟩)] W (DoP W r (.slice a n cap) (.int .i64 x) (.int .i64 0) q er)) :
    Calls Try.prog 186 #[.slice a n cap, .func (.func g) #[] #[]] w fun e w' => e = .returned (.tuple #[.int .i64 x, .int .i64 q, .int .i64 er]) ∧ Keeps NoBlk w w' := by
  have hmf : ∀ (fn : Fn) (first cap : Array Value) (w : World), (Instr.makeFunc fn first cap).run Try.prog w = .ok (.func fn first cap) w := fun _ _ _ _ => rfl
  obtain ⟨B, hB⟩ : ∃ B, w.heap.size = B := ⟨_, rfl⟩
  go_enter_defers Try.func186, Try.ntmps186
  go_wp2_with fail
  refine name_calls0 ?_
  intro w1 hw1
  have k1 : Keeps NoBlk w w1 := by subst hw1; exact ((((Keeps.refl _ _).alloc _).alloc _).alloc _).alloc _
  have s1 : w1.heap.size = B + 1 + 1 + 1 + 1 := by subst hw1; simp [hB]
  have bX : w1.heap[B]? = some (.cells #[.int .i64 0] 2 (0, 0)) := by
    subst hw1
    rw [heap_alloc_old _ _ (by simp; omega), heap_alloc_old _ _ (by simp; omega), heap_alloc_old _ _ (by simp; omega), ← hB]
    exact heap_alloc_new _ _
  have bA : w1.heap[B + 1]? = some (.cells #[.int .i64 0] 3 (0, 0)) := by
    subst hw1
    rw [heap_alloc_old _ _ (by simp; omega), heap_alloc_old _ _ (by simp; omega)]
    have := heap_alloc_new (w.alloc (.cells #[.int .i64 0] 2)) (.cells #[.int .i64 0] 3)
    rw [show (w.alloc (.cells #[.int .i64 0] 2)).heap.size = B + 1 by simp [hB]] at this
    exact this
  have bE : w1.heap[B + 1 + 1]? = some (.cells #[.int .i64 0] 25 (0, 0)) := by
    subst hw1
    rw [heap_alloc_old _ _ (by simp; omega)]
    have := heap_alloc_new ((w.alloc (.cells #[.int .i64 0] 2)).alloc (.cells #[.int .i64 0] 3)) (.cells #[.int .i64 0] 25)
    rw [show ((w.alloc (.cells #[.int .i64 0] 2)).alloc (.cells #[.int .i64 0] 3)).heap.size = B + 1 + 1 by simp [hB]] at this
    exact this
  have bR : IsRd w1 (B + 1 + 1 + 1) (.slice a n cap) 0 := by
    subst hw1
    refine ⟨?_⟩
    have := heap_alloc_new (((w.alloc (.cells #[.int .i64 0] 2)).alloc (.cells #[.int .i64 0] 3)).alloc (.cells #[.int .i64 0] 25)) (.cells #[.slice a n cap, .int .i64 0] 259)
    rw [show (((w.alloc (.cells #[.int .i64 0] 2)).alloc (.cells #[.int .i64 0] 3)).alloc (.cells #[.int .i64 0] 25)).heap.size = B + 1 + 1 + 1 by simp [hB]] at this
    exact this
  have hcall := hdo w1 _ k1 (by omega) bR
  clear hw1 hdo
  generalize hA1 : B + 1 = A at s1 bA bE bR hcall ⊢
  generalize hE1 : A + 1 = E at s1 bE bR hcall ⊢
  generalize hR1 : E + 1 = R at s1 bR hcall ⊢
  have n1 : ¬ B = A := by omega
  have n2 : ¬ B = E := by omega
  have n3 : ¬ A = E := by omega
  have n4 : ¬ R = B := by omega
  have n5 : ¬ R = A := by omega
  have n6 : ¬ R = E := by omega
  have n1' : ¬ A = B := by omega
  have n2' : ¬ E = B := by omega
  have n3' : ¬ E = A := by omega
  have n4' : ¬ B = R := by omega
  have n5' : ¬ A = R := by omega
  have n6' : ¬ E = R := by omega
  have hBA : B < A := by omega
  have hBR : B < R := by omega
  have hAE : A < E := by omega
  have hBw : Hid (w.heap.size ≤ B) := by show _ ≤ _; omega
  replace hB : Hid (w.heap.size = B) := hB
  replace hA1 : Hid (B + 1 = A) := hA1
  replace hE1 : Hid (A + 1 = E) := hE1
  replace hR1 : Hid (E + 1 = R) := hR1
  refine hcall.mono ?_
  intro e w2 hdp
  obtain ⟨k2, hc⟩ := hdp
  have bX2 := (k2.block B (block_lt bX) (by omega)).trans bX
  have bA2 := (k2.block (A) (block_lt bA) (by omega)).trans bA
  have bE2 := (k2.block (E) (block_lt bE) (by omega)).trans bE
  have k12 : Keeps NoBlk w w2 := k1.trans k2 (fun b hb e => by have := hBw.out; omega)

  clear hcall bX bA bE
  have sE := block_lt bE2
  rcases hc with ⟨h0, rfl, hR2⟩ | ⟨h0, hz, rfl⟩
  · subst h0
    obtain ⟨rc0, rc1, _, _⟩ := hR2.cells
    have cX0 : w2.cell? ⟨B, 0, none⟩ = some (.int .i64 0) := by rw [cell_of_row _ _ _ _ _ _ bX2]; rfl
    have fX0 : w2.frozen? ⟨B, 0, none⟩ = false := frozen_of_row _ _ _ _ _ bX2
    go_wp2_with fail
    refine name_world ?_
    intro w3 hw3
    have k3 : Keeps (fun b => b = B) w2 w3 := by subst hw3; exact (Keeps.refl (fun b => b = B) w2).setCell (fun _ => rfl) _
    have bX3 : w3.heap[B]? = some (.cells #[.int .i64 x] 2 (0, 0)) := by subst hw3; rw [heap_setCell_same _ _ _ _ _ _ bX2]; simp
    have bA3 := (k3.block (A) (block_lt bA2) (by omega)).trans bA2
    have bE3 := (k3.block (E) (block_lt bE2) (by omega)).trans bE2
    have rc3 := (k3.cell (p := ⟨R, 1, none⟩) (block_lt hR2.hp) n4).trans rc1
    have k13 : Keeps NoBlk w w3 := k12.trans k3 (fun b hb e => by have := hBw.out; omega)
    have cX : w3.cell? ⟨B, 0, none⟩ = some (.int .i64 x) := by rw [cell_of_row _ _ _ _ _ _ bX3]; rfl
    have fX : w3.frozen? ⟨B, 0, none⟩ = false := frozen_of_row _ _ _ _ _ bX3
    have cA : w3.cell? ⟨A, 0, none⟩ = some (.int .i64 0) := by rw [cell_of_row _ _ _ _ _ _ bA3]; rfl
    have fA : w3.frozen? ⟨A, 0, none⟩ = false := frozen_of_row _ _ _ _ _ bA3
    have cE : w3.cell? ⟨E, 0, none⟩ = some (.int .i64 0) := by rw [cell_of_row _ _ _ _ _ _ bE3]; rfl
    have fE : w3.frozen? ⟨E, 0, none⟩ = false := frozen_of_row _ _ _ _ _ bE3
    have hfin : Hid (CatchP w3 B (A) (E) (.int .i64 x) q 0 (((w3.setCell ⟨B, 0, none⟩ (.int .i64 x)).setCell ⟨A, 0, none⟩ (.int .i64 q)).setCell ⟨E, 0, none⟩ (.int .i64 0)).drew) := CatchP.of bX3 bA3 bE3 (by omega) (by omega) (Keeps.refl _ _)
    have hsz : Hid (E < w3.heap.size) := block_lt bE3
    clear hw3 bX2 bA2 bE2 rc0 rc1 cX0 fX0 hR2 k2 k1 k3 bX3 bA3 bE3 k12
    go_region
    all_goals
      go_wp2_with fail
      refine leaves_cons (f := 202) (args := #[.pointer (some ⟨B, 0, none⟩), .pointer (some ⟨A, 0, none⟩), .pointer (some ⟨E, 0, none⟩)]) (by simp) (by simp [go_sem]) ?_
      refine catchI_idle.mono ?_
      rintro e u' w4 ⟨rfl, rfl, k4⟩
      obtain ⟨m1, m2, m3, m4⟩ := (hfin.out.keep k4 (by omega) (by omega) hsz.out)
      have hk4 : Hid (Keeps NoBlk w w4) := k13.trans m1 (fun b hb e => by have := hBw.out; omega)
      clear hfin
      simp [Leaves, settle, results, Try.results186, go_sem, m2, m3, m4]
      exact hk4.out
  · cases hz
    go_wp2_with fail
    refine leaves_cons (f := 202) (args := #[.pointer (some ⟨B, 0, none⟩), .pointer (some ⟨A, 0, none⟩), .pointer (some ⟨E, 0, none⟩)]) (by simp) (by simp [go_sem]) ?_
    refine (catchI_panic q er [] bX2 bA2 bE2 (by omega) (by omega)).mono ?_
    rintro e u' w4 ⟨rfl, rfl, m1, m2, m3, m4⟩
    have hk4 : Hid (Keeps NoBlk w w4) := k12.trans m1 (fun b hb e => by have := hBw.out; omega)
    simp [Leaves, settle, results, Try.results186, go_sem, m2, m3, m4]
    exact hk4.out

set_option maxRecDepth 100000 in
set_option maxHeartbeats 2000000 in
theorem readT_c {w : World} {a : Option Addr} {n cap : Nat} (g : Nat) (x : ByteArray) (q : Nat) (er : Int) (eg : ∀ args w, (callFunc g args).run Try.prog w = .ok (.enter g args) w)
    (hdo : ∀ W r, Keeps NoBlk w W → w.heap.size ≤ r → IsRd W r (.slice a n cap) 0 → Calls Try.prog g #[.pointer (some ⟨r, 0, none⟩)] W (DoP W r (.slice a n cap) (.string x) (.string ⟨#[]⟩) q er)) :
    Calls Try.prog 188 #[.slice a n cap, .func (.func g) #[] #[]] w fun e w' => e = .returned (.tuple #[.string x, .int .i64 q, .int .i64 er]) ∧ Keeps NoBlk w w' := by
  have hmf : ∀ (fn : Fn) (first cap : Array Value) (w : World), (Instr.makeFunc fn first cap).run Try.prog w = .ok (.func fn first cap) w := fun _ _ _ _ => rfl
  obtain ⟨B, hB⟩ : ∃ B, w.heap.size = B := ⟨_, rfl⟩
  go_enter_defers Try.func188, Try.ntmps188
  go_wp2_with fail
  refine name_calls0 ?_
  intro w1 hw1
  have k1 : Keeps NoBlk w w1 := by subst hw1; exact ((((Keeps.refl _ _).alloc _).alloc _).alloc _).alloc _
  have s1 : w1.heap.size = B + 1 + 1 + 1 + 1 := by subst hw1; simp [hB]
  have bX : w1.heap[B]? = some (.cells #[.string ⟨#[]⟩] 9 (0, 0)) := by
    subst hw1
    rw [heap_alloc_old _ _ (by simp; omega), heap_alloc_old _ _ (by simp; omega), heap_alloc_old _ _ (by simp; omega), ← hB]
    exact heap_alloc_new _ _
  have bA : w1.heap[B + 1]? = some (.cells #[.int .i64 0] 3 (0, 0)) := by
    subst hw1
    rw [heap_alloc_old _ _ (by simp; omega), heap_alloc_old _ _ (by simp; omega)]
    have := heap_alloc_new (w.alloc (.cells #[.string ⟨#[]⟩] 9)) (.cells #[.int .i64 0] 3)
    rw [show (w.alloc (.cells #[.string ⟨#[]⟩] 9)).heap.size = B + 1 by simp [hB]] at this
    exact this
  have bE : w1.heap[B + 1 + 1]? = some (.cells #[.int .i64 0] 25 (0, 0)) := by
    subst hw1
    rw [heap_alloc_old _ _ (by simp; omega)]
    have := heap_alloc_new ((w.alloc (.cells #[.string ⟨#[]⟩] 9)).alloc (.cells #[.int .i64 0] 3)) (.cells #[.int .i64 0] 25)
    rw [show ((w.alloc (.cells #[.string ⟨#[]⟩] 9)).alloc (.cells #[.int .i64 0] 3)).heap.size = B + 1 + 1 by simp [hB]] at this
    exact this
  have bR : IsRd w1 (B + 1 + 1 + 1) (.slice a n cap) 0 := by
    subst hw1
    refine ⟨?_⟩
    have := heap_alloc_new (((w.alloc (.cells #[.string ⟨#[]⟩] 9)).alloc (.cells #[.int .i64 0] 3)).alloc (.cells #[.int .i64 0] 25)) (.cells #[.slice a n cap, .int .i64 0] 259)
    rw [show (((w.alloc (.cells #[.string ⟨#[]⟩] 9)).alloc (.cells #[.int .i64 0] 3)).alloc (.cells #[.int .i64 0] 25)).heap.size = B + 1 + 1 + 1 by simp [hB]] at this
    exact this
  have hcall := hdo w1 _ k1 (by omega) bR
  clear hw1 hdo
  generalize hA1 : B + 1 = A at s1 bA bE bR hcall ⊢
  generalize hE1 : A + 1 = E at s1 bE bR hcall ⊢
  generalize hR1 : E + 1 = R at s1 bR hcall ⊢
  have n1 : ¬ B = A := by omega
  have n2 : ¬ B = E := by omega
  have n3 : ¬ A = E := by omega
  have n4 : ¬ R = B := by omega
  have n5 : ¬ R = A := by omega
  have n6 : ¬ R = E := by omega
  have n1' : ¬ A = B := by omega
  have n2' : ¬ E = B := by omega
  have n3' : ¬ E = A := by omega
  have n4' : ¬ B = R := by omega
  have n5' : ¬ A = R := by omega
  have n6' : ¬ E = R := by omega
  have hBA : B < A := by omega
  have hBR : B < R := by omega
  have hAE : A < E := by omega
  have hBw : Hid (w.heap.size ≤ B) := by show _ ≤ _; omega
  replace hB : Hid (w.heap.size = B) := hB
  replace hA1 : Hid (B + 1 = A) := hA1
  replace hE1 : Hid (A + 1 = E) := hE1
  replace hR1 : Hid (E + 1 = R) := hR1
  refine hcall.mono ?_
  intro e w2 hdp
  obtain ⟨k2, hc⟩ := hdp
  have bX2 := (k2.block B (block_lt bX) (by omega)).trans bX
  have bA2 := (k2.block (A) (block_lt bA) (by omega)).trans bA
  have bE2 := (k2.block (E) (block_lt bE) (by omega)).trans bE
  have k12 : Keeps NoBlk w w2 := k1.trans k2 (fun b hb e => by have := hBw.out; omega)

  clear hcall bX bA bE
  have sE := block_lt bE2
  rcases hc with ⟨h0, rfl, hR2⟩ | ⟨h0, hz, rfl⟩
  · subst h0
    obtain ⟨rc0, rc1, _, _⟩ := hR2.cells
    have cX0 : w2.cell? ⟨B, 0, none⟩ = some (.string ⟨#[]⟩) := by rw [cell_of_row _ _ _ _ _ _ bX2]; rfl
    have fX0 : w2.frozen? ⟨B, 0, none⟩ = false := frozen_of_row _ _ _ _ _ bX2
    go_wp2_with fail
    refine name_world ?_
    intro w3 hw3
    have k3 : Keeps (fun b => b = B) w2 w3 := by subst hw3; exact (Keeps.refl (fun b => b = B) w2).setCell (fun _ => rfl) _
    have bX3 : w3.heap[B]? = some (.cells #[.string x] 9 (0, 0)) := by subst hw3; rw [heap_setCell_same _ _ _ _ _ _ bX2]; simp
    have bA3 := (k3.block (A) (block_lt bA2) (by omega)).trans bA2
    have bE3 := (k3.block (E) (block_lt bE2) (by omega)).trans bE2
    have rc3 := (k3.cell (p := ⟨R, 1, none⟩) (block_lt hR2.hp) n4).trans rc1
    have k13 : Keeps NoBlk w w3 := k12.trans k3 (fun b hb e => by have := hBw.out; omega)
    have cX : w3.cell? ⟨B, 0, none⟩ = some (.string x) := by rw [cell_of_row _ _ _ _ _ _ bX3]; rfl
    have fX : w3.frozen? ⟨B, 0, none⟩ = false := frozen_of_row _ _ _ _ _ bX3
    have cA : w3.cell? ⟨A, 0, none⟩ = some (.int .i64 0) := by rw [cell_of_row _ _ _ _ _ _ bA3]; rfl
    have fA : w3.frozen? ⟨A, 0, none⟩ = false := frozen_of_row _ _ _ _ _ bA3
    have cE : w3.cell? ⟨E, 0, none⟩ = some (.int .i64 0) := by rw [cell_of_row _ _ _ _ _ _ bE3]; rfl
    have fE : w3.frozen? ⟨E, 0, none⟩ = false := frozen_of_row _ _ _ _ _ bE3
    have hfin : Hid (CatchP w3 B (A) (E) (.string x) q 0 (((w3.setCell ⟨B, 0, none⟩ (.string x)).setCell ⟨A, 0, none⟩ (.int .i64 q)).setCell ⟨E, 0, none⟩ (.int .i64 0)).drew) := CatchP.of bX3 bA3 bE3 (by omega) (by omega) (Keeps.refl _ _)
    have hsz : Hid (E < w3.heap.size) := block_lt bE3
    clear hw3 bX2 bA2 bE2 rc0 rc1 cX0 fX0 hR2 k2 k1 k3 bX3 bA3 bE3 k12
    go_region
    all_goals
      go_wp2_with fail
      refine leaves_cons (f := 203) (args := #[.pointer (some ⟨B, 0, none⟩), .pointer (some ⟨A, 0, none⟩), .pointer (some ⟨E, 0, none⟩)]) (by simp) (by simp [go_sem]) ?_
      refine catchT_idle.mono ?_
      rintro e u' w4 ⟨rfl, rfl, k4⟩
      obtain ⟨m1, m2, m3, m4⟩ := (hfin.out.keep k4 (by omega) (by omega) hsz.out)
      have hk4 : Hid (Keeps NoBlk w w4) := k13.trans m1 (fun b hb e => by have := hBw.out; omega)
      clear hfin
      simp [Leaves, settle, results, Try.results188, go_sem, m2, m3, m4]
      exact hk4.out
  · cases hz
    go_wp2_with fail
    refine leaves_cons (f := 203) (args := #[.pointer (some ⟨B, 0, none⟩), .pointer (some ⟨A, 0, none⟩), .pointer (some ⟨E, 0, none⟩)]) (by simp) (by simp [go_sem]) ?_
    refine (catchT_panic q er [] bX2 bA2 bE2 (by omega) (by omega)).mono ?_
    rintro e u' w4 ⟨rfl, rfl, m1, m2, m3, m4⟩
    have hk4 : Hid (Keeps NoBlk w w4) := k12.trans m1 (fun b hb e => by have := hBw.out; omega)
    simp [Leaves, settle, results, Try.results188, go_sem, m2, m3, m4]
    exact hk4.out

end Go.Proofs.Ytofdcmbjcpfabaa
