/- The keys of a table of timers: structs of an owner and a number. -/
import Derived.Test.YtofdcmbjcpfabaaHeapOT
import Derived.Test.YtofdcmbjcpfabaaFactsP
import Derived.DeepKeys4
import Derived.WideKeyPair
namespace Go.Proofs.Ytofdcmbjcpfabaa
open Go.RowKit Go.Maps Go.MapKept Go.ChangeMaps Go.WideMaps

theorem row_name : (166 : TypeId) < Try.prog.types.size := of_decide_eq_true (by kernel_rfl)
theorem wide_name : (match Try.prog.underlying 166 with | some (.array _ _) | some (.struct _) => true | _ => false) = true := by rw [Try.underlying166]
theorem key_name : Try.prog.keyType 166 = true := by kernel_rfl
theorem cells_name : Try.prog.cellsOf 166 = 2 := by kernel_rfl
theorem cells_string : Try.prog.cellsOf 9 = 1 := by kernel_rfl
theorem cells_int : Try.prog.cellsOf 3 = 1 := by kernel_rfl
theorem size_types : ∃ m, Try.prog.types.size = m + 1 := by
  obtain ⟨k, hk⟩ := Nat.exists_eq_add_of_lt row_name
  exact ⟨_, hk⟩

set_option maxRecDepth 100000 in
theorem keyN : Keyed Try.prog 166 := Keyed.of_law (deep_law_laid fact_laid (m := 2) (by omega) row_name (by kernel_rfl) wide_name)

/-- A name as a key. -/
def ekN (k : ByteArray × Int) : Value := .agg #[.string k.1, .int .i64 k.2]
theorem nameInj (k k' : ByteArray × Int) (h : ekN k = ekN k') : k = k' := by
  obtain ⟨a, b⟩ := k
  obtain ⟨c, d⟩ := k'
  simp only [ekN, Value.agg.injEq, Array.mk.injEq, List.cons.injEq, Value.string.injEq, Value.int.injEq, true_and, and_true] at h
  rw [h.1, h.2]

theorem keyOf_name {o : ByteArray} {i : Int} (ho : o.size ≤ maxLen) (hi : (Lit.int .i64 i).wf = true) : ∃ l, keyOf Try.prog 166 (ekN (o, i)) = some l := by
  obtain ⟨m, hm⟩ := size_types
  refine ⟨.string (keyBytes [.string o.data.toList, .int .i64 i]), ?_⟩
  unfold keyOf ekN
  simp only [Try.underlying166]
  rw [if_pos (by simp [key_name, Value.formed, Try.underlying166, cells_name]), hm]
  unfold Program.keyLits
  simp only [Try.underlying166, Value.cells]
  rw [if_pos (by rw [cells_name]; exact ⟨rfl, by simp⟩)]
  simp [cells_string, cells_int, Program.keyLits, Try.underlying9, Try.underlying3, ho, hi]

end Go.Proofs.Ytofdcmbjcpfabaa
