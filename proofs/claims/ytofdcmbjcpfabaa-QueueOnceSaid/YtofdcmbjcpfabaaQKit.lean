/- Queues of tasks: how they lie in memory, and the small functions. -/
import Derived.Test.YtofdcmbjcpfabaaCmp
import Derived.Deep.RegionHeld3
import Derived.Deep.RegionLaw
import Derived.Deep.DrawnRows
import Derived.Deep.DeepFit
import Derived.BigQuiet
import Derived.StringKeys
import Derived.StillTailTactics
import Derived.Lib.SliceRun
namespace Go.Proofs.Ytofdcmbjcpfabaa
open Go.RowKit Go.Maps Go.MapKept Go.ChangeMaps
attribute [local go_sem ↓] Go.wp_at_zero Go.wp_at_succ

structure Task where
  key : ByteArray
  sticky : ByteArray
  ready : Int
  att : Int

instance : Inhabited Task := ⟨⟨⟨#[]⟩, ⟨#[]⟩, 0, 0⟩⟩

structure QOut where
  t : Task
  tok : Int
  who : ByteArray
  till : Int

instance : Inhabited QOut := ⟨⟨default, 0, ⟨#[]⟩, 0⟩⟩

def encTask (t : Task) : List Value := [.string t.key, .string t.sticky, .int .i64 t.ready, .int .i64 t.att]
theorem encTask_len (t : Task) : (encTask t).length = 4 := rfl
def taskV (t : Task) : Value := .agg #[.string t.key, .string t.sticky, .int .i64 t.ready, .int .i64 t.att]

def encOut (x : QOut) : List Value := [.string x.t.key, .string x.t.sticky, .int .i64 x.t.ready, .int .i64 x.t.att, .int .i64 x.tok, .string x.who, .int .i64 x.till]
theorem encOut_len (x : QOut) : (encOut x).length = 7 := rfl
def outV (x : QOut) : Value := .agg #[.string x.t.key, .string x.t.sticky, .int .i64 x.t.ready, .int .i64 x.t.att, .int .i64 x.tok, .string x.who, .int .i64 x.till]

theorem infoTask : (Try.prog.info? 142).map (fun i => (i.zero, i.size, i.bytes)) = some (some (.agg #[.string ⟨#[]⟩, .string ⟨#[]⟩, .int .i64 0, .int .i64 0]), 4, 48) := by kernel_rfl

theorem keyS : Keyed Try.prog 9 := string_keyed Try.underlying9
theorem strInj (k k' : ByteArray) (h : Value.string k = Value.string k') : k = k' := by cases h; rfl
theorem keyOf_s {k : ByteArray} (h : k.size ≤ maxLen) : keyOf Try.prog 9 (.string k) = some (.string k.data.toList) := Go.WideMaps.keyOf_string_mk Try.underlying9 h
theorem keyOf_i {a : Int} (h : (Lit.int .i64 a).wf = true) : keyOf Try.prog 3 (.int .i64 a) = some (.int .i64 a) := keyOf_int_mk Try.underlying3 h
theorem zeroOut (w : World) : (zeroValue 149).run Try.prog w = .ok (outV default) w := by kernel_rfl

/-- A queue's state. -/
structure QS where
  most : Int
  grace : Int
  next : Int
  waits : List Task
  outs : Int → Option QOut
  there : ByteArray → Option Int

structure QRaw (w : World) (p : Nat) (lv : Value) (mo mt : Nat) (q : QS) : Prop where
  hp : w.heap[p]? = some (.cells #[.int .i64 q.most, .int .i64 q.grace, .int .i64 q.next, lv, .map (some mo), .map (some mt)] 118 (0, 0))
  hl : RowV w 142 4 encTask lv q.waits
  ho : ∃ n, MapFn w Try.prog 3 (Value.int .i64) outV mo n q.outs
  ht : ∃ n, MapFn w Try.prog 9 Value.string (Value.int .i64) mt n q.there
  hm : mo ≠ mt

/-- The blocks of a queue. -/
def QFoot (p : Nat) (lv : Value) (mo mt : Nat) : Nat → Prop := fun k => k = p ∨ k = mo ∨ k = mt ∨ lv.ownBlock = some k

section
variable {w w' : World} {p mo mt : Nat} {lv : Value} {q : QS}

theorem QRaw.lt (h : QRaw w p lv mo mt q) : p < w.heap.size ∧ (∀ b, lv.ownBlock = some b → b < w.heap.size) ∧ mo < w.heap.size ∧ mt < w.heap.size :=
  ⟨block_lt h.hp, fun b hb => (World.ownsRow.lt h.hl b hb).2, h.ho.elim fun _ h => h.lt, h.ht.elim fun _ h => h.lt⟩

theorem QRaw.ne (h : QRaw w p lv mo mt q) : p ≠ mo ∧ p ≠ mt ∧ (∀ b, lv.ownBlock = some b → b ≠ p ∧ b ≠ mo ∧ b ≠ mt) := by
  obtain ⟨n, es, cl, ho, _⟩ := h.ho
  obtain ⟨n', es', cl', ht, _⟩ := h.ht
  have hp := h.hp
  refine ⟨fun e => ?_, fun e => ?_, fun b hb => ?_⟩
  · subst e; rw [hp] at ho; cases ho
  · subst e; rw [hp] at ht; cases ht
  · rcases h.hl.2 with ⟨e, _⟩ | ⟨g, cap, cur, e, _, r2, _⟩
    · subst e; cases hb
    · subst e
      cases hb
      refine ⟨fun e => ?_, fun e => ?_, fun e => ?_⟩
      · subst e; rw [hp] at r2; cases r2
      · subst e; rw [ho] at r2; cases r2
      · subst e; rw [ht] at r2; cases r2

theorem QRaw.at_blocks (h : QRaw w p lv mo mt q) (hb : ∀ k, QFoot p lv mo mt k → w'.heap[k]? = w.heap[k]?) : QRaw w' p lv mo mt q :=
  ⟨(hb p (.inl rfl)).trans h.hp, h.hl.at_block (fun b hb' => hb b (.inr (.inr (.inr hb')))), h.ho.elim fun n x => ⟨n, x.at_block (hb mo (.inr (.inl rfl)))⟩, h.ht.elim fun n x => ⟨n, x.at_block (hb mt (.inr (.inr (.inl rfl))))⟩, h.hm⟩

theorem QRaw.foot_lt (h : QRaw w p lv mo mt q) : ∀ k, QFoot p lv mo mt k → k < w.heap.size := fun k hk => by
  rcases hk with rfl | rfl | rfl | hk
  · exact h.lt.1
  · exact h.lt.2.2.1
  · exact h.lt.2.2.2
  · exact h.lt.2.1 k hk

theorem QRaw.keep (h : QRaw w p lv mo mt q) {S : Nat → Prop} (hk : Keeps S w w') (hd : ∀ k, QFoot p lv mo mt k → ¬ S k) : QRaw w' p lv mo mt q :=
  h.at_blocks (fun k hf => hk.block k (h.foot_lt k hf) (hd k hf))
theorem QRaw.keep0 (h : QRaw w p lv mo mt q) (hk : Keeps NoBlk w w') : QRaw w' p lv mo mt q := h.keep hk (fun _ _ x => x)

theorem QRaw.fields (h : QRaw w p lv mo mt q) : w.cell? ⟨p, 0, none⟩ = some (.int .i64 q.most) ∧ w.cell? ⟨p, 1, none⟩ = some (.int .i64 q.grace) ∧ w.cell? ⟨p, 2, none⟩ = some (.int .i64 q.next) ∧
    w.cell? ⟨p, 3, none⟩ = some lv ∧ w.cell? ⟨p, 4, none⟩ = some (.map (some mo)) ∧ w.cell? ⟨p, 5, none⟩ = some (.map (some mt)) := by
  refine ⟨?_, ?_, ?_, ?_, ?_, ?_⟩ <;> (rw [cell_of_row _ _ _ _ _ _ h.hp]; rfl)

theorem QRaw.frozen (h : QRaw w p lv mo mt q) (o : Nat) : w.frozen? ⟨p, o, none⟩ = false := frozen_of_row _ _ _ _ _ h.hp

theorem QRaw.len (h : QRaw w p lv mo mt q) : ∃ a cap, lv = .slice a q.waits.length cap := by
  rcases h.hl.form with ⟨e, e2⟩ | ⟨g, cap, e⟩
  · exact ⟨none, 0, by rw [e, e2]; rfl⟩
  · exact ⟨_, cap, e⟩

theorem QRaw.cap (h : QRaw w p lv mo mt q) : q.waits.length ≤ maxLen := by
  rcases h.hl.2 with ⟨_, e2⟩ | ⟨g, cap, cur, e, _, _, r3, r4, _⟩
  · rw [e2]; exact Nat.zero_le _
  · exact Nat.le_trans r3 r4
end

/-- A task's four cells lie at the head of block B. -/
def TaskAt (w : World) (B : Nat) (t : Task) : Prop := w.heap[B]? = some (.cells #[.string t.key, .string t.sticky, .int .i64 t.ready, .int .i64 t.att] 142 (0, 0))
theorem TaskAt.cells {w : World} {B : Nat} {t : Task} (h : TaskAt w B t) : w.cell? ⟨B, 0, none⟩ = some (.string t.key) ∧ w.cell? ⟨B, 1, none⟩ = some (.string t.sticky) ∧ w.cell? ⟨B, 2, none⟩ = some (.int .i64 t.ready) ∧ w.cell? ⟨B, 3, none⟩ = some (.int .i64 t.att) := by
  refine ⟨?_, ?_, ?_, ?_⟩ <;> (rw [cell_of_row _ _ _ _ _ _ h]; rfl)

/-- whole.Add -/
def addI (x y : Int) : Int := if 0 < y ∧ 9223372036854775807 - y < x then 9223372036854775807 else if y < 0 ∧ x < -9223372036854775808 - y then -9223372036854775808 else x + y

set_option maxHeartbeats 1000000 in
theorem add_c (x y : Int) (w : World) (hx0 : -9223372036854775808 ≤ x) (hx1 : x ≤ 9223372036854775807) (hy0 : -9223372036854775808 ≤ y) (hy1 : y ≤ 9223372036854775807) :
    Calls Try.prog 84 #[.int .i64 x, .int .i64 y] w fun e w' => e = .returned (.int .i64 (addI x y)) ∧ w = w' := by
  unfold addI
  have q1 : 0 < y → IntKind.i64.wrap (9223372036854775807 - y) = 9223372036854775807 - y := fun h => IntWalk.i64_in _ (by omega)
  have q2 : y < 0 → IntKind.i64.wrap (-9223372036854775808 - y) = -9223372036854775808 - y := fun h => IntWalk.i64_in _ (by omega)
  by_cases h1 : 0 < y
  · have h2 : ¬ y < 0 := by omega
    by_cases h3 : 9223372036854775807 - y < x
    · go_enter Try.func84, Try.ntmps84
      go_wp2
      go_ret
      exact ⟨by simp [*], rfl⟩
    · go_enter Try.func84, Try.ntmps84
      go_wp2
      go_ret
      exact ⟨by simp [*], rfl⟩
  · by_cases h2 : y < 0
    · by_cases h3 : x < -9223372036854775808 - y
      · go_enter Try.func84, Try.ntmps84
        go_wp2
        go_ret
        exact ⟨by simp [*], rfl⟩
      · go_enter Try.func84, Try.ntmps84
        go_wp2
        go_ret
        exact ⟨by simp [*], rfl⟩
    · obtain rfl : y = 0 := by omega
      go_enter Try.func84, Try.ntmps84
      go_wp2
      go_ret
      exact ⟨by simp [*], rfl⟩

set_option maxHeartbeats 1000000 in
theorem qmade_c (w : World) (p mo mt : Nat) (lv : Value) (q : QS) (h : QRaw w p lv mo mt q) (hn : 0 < q.next) :
    Calls Try.prog 78 #[.pointer (some ⟨p, 0, none⟩)] w fun e w' => e = .returned (.bool true) ∧ w = w' := by
  obtain ⟨_, _, c2, _⟩ := h.fields
  go_enter Try.func78, Try.ntmps78
  go_wp2
  go_ret
  exact ⟨by simp [*], rfl⟩

end Go.Proofs.Ytofdcmbjcpfabaa
