/- What is asked of the program as a whole, once for all statements: each fact a theorem of its own, that the kernel gives its memory back. -/
import Derived.Test.YtofdcmbjcpfabaaRows
import Derived.ProofKit
namespace Go.Proofs.Ytofdcmbjcpfabaa

theorem fact_laid : laidOutB Try.prog = true := by kernel_rfl
theorem fact_rowed : mapsRowed Try.prog = true := by kernel_rfl
theorem fact_stops : (Try.prog.stops == []) = true := by kernel_rfl
theorem fact_knobs : (Try.prog.stopKnobs == []) = true := by kernel_rfl
theorem fact_heard : Try.prog.stopsHeard = true := by kernel_rfl
theorem fact_enter : Try.prog.mayEnter = true := by kernel_rfl
theorem fact_lifts : (Rows.heapTakesRow.lifted == Try.prog.liftsFinal) = true := by kernel_rfl
theorem fact_make : (Try.prog.make == some Rows.heapTakesRow.make) = true := by kernel_rfl
theorem fact_keys : (false == Try.prog.plainKeys) = true := by kernel_rfl

end Go.Proofs.Ytofdcmbjcpfabaa
