/-
  No cell of these rows narrows 'for every input' (looked for: loops, veiled, ifaces, maps, wideKeys, modest, calm, conditions, laid).
  DERIVED. THE GIVEN ROWS OF THIS SEAT. 15 by the template 'for every input the law returns true; each argument reads behind the call as it read before'; 0 by the template 'total and deterministic' (their statements: YtofdcmbjcpfabaaTotals.lean).
  GIVEN WITH THE SEED: the statements are not yours to turn. If you find one false, say at which input.
  Laid BY PROGRAM, IN A SANDBOX (cutbox-rows.mjs): the forced cells as the released guide's own fill.sh prints them over the translation 3765e5237329f81f… (all of the seat's roots in one cut). By AI agents, Wed Nov 11 2026. No macro, syntax, notation, axiom, sorry.
-/
import Derived.Test.YtofdcmbjcpfabaaChecked
import GoSem.Claim
import GoSem.ClaimJoined
import GoSem.ClaimMapViews
import Derived.JoinedTies
import Derived.KernelRfl
namespace Go.Proofs.Ytofdcmbjcpfabaa
/- THE CELL 'sum', in the pinned program and in every row, IS THE sha256 OF THE DUMP (.gsa) THAT YtofdcmbjcpfabaaProg.lean LOADS. Nothing in Lean hashes anything: it is a label: what it is worth is what the hold of that sum in a sandbox is worth. -/
noncomputable def Try.pinned : Pinned := { name := "ytofdcmbjcpfabaa", sum := "3765e5237329f81fb0601802318dded1b4e54f049ade06c50836f445dbe973bc", checked := Try.checked }
namespace Rows
def none {H : Type} : Left H := { results := [], args := [] }

/-- 'prompterlaw22.QueueOrder': WHATEVER THE INPUT: true; the input reads as it did. -/
def queueOrderSpec : ChangeSpec := { name := "queueOrder", fn := fun _ => fun
  | [d1, d2, d3, d4, d5] => { results := [.lit (.bool true)], args := [d1, d2, d3, d4, d5] }
  | _ => none }
def queueOrderRow : OpenClaim := { program := "ytofdcmbjcpfabaa", sum := "3765e5237329f81fb0601802318dded1b4e54f049ade06c50836f445dbe973bc", func := "prompter/prompterlaw22.QueueOrder", spec := "queueOrder", inPlace := ["maps.clone"], unfollowed := true, recurses := true, plainKeys := false, apart := false }
def QueueOrderSaid : Prop := queueOrderRow.holds Try.pinned (OpenSpec.ofChange queueOrderSpec)

/-- ITS FALSE NEIGHBOUR: 'it returns false'. Refute it at one input. -/
def queueOrderWrong : ChangeSpec := { name := "queueOrder", fn := fun _ => fun
  | [d1, d2, d3, d4, d5] => { results := [.lit (.bool false)], args := [d1, d2, d3, d4, d5] }
  | _ => none }
def QueueOrderWrongFalsely : Prop := queueOrderRow.holds Try.pinned (OpenSpec.ofChange queueOrderWrong)

/-- 'prompterlaw03.HeapTakes': WHATEVER THE INPUT: true; the input reads as it did. -/
def heapTakesSpec : ChangeSpec := { name := "heapTakes", fn := fun _ => fun
  | [d1, d2, d3] => { results := [.lit (.bool true)], args := [d1, d2, d3] }
  | _ => none }
def heapTakesRow : OpenClaim := { program := "ytofdcmbjcpfabaa", sum := "3765e5237329f81fb0601802318dded1b4e54f049ade06c50836f445dbe973bc", func := "prompter/prompterlaw03.HeapTakes", spec := "heapTakes", plainKeys := false, apart := false }
def HeapTakesSaid : Prop := heapTakesRow.holds Try.pinned (OpenSpec.ofChange heapTakesSpec)

/-- ITS FALSE NEIGHBOUR: 'it returns false'. Refute it at one input. -/
def heapTakesWrong : ChangeSpec := { name := "heapTakes", fn := fun _ => fun
  | [d1, d2, d3] => { results := [.lit (.bool false)], args := [d1, d2, d3] }
  | _ => none }
def HeapTakesWrongFalsely : Prop := heapTakesRow.holds Try.pinned (OpenSpec.ofChange heapTakesWrong)

/-- 'prompterlaw21.TimersOnce': WHATEVER THE INPUT: true; the input reads as it did. -/
def timersOnceSpec : ChangeSpec := { name := "timersOnce", fn := fun _ => fun
  | [d1, d2] => { results := [.lit (.bool true)], args := [d1, d2] }
  | _ => none }
def timersOnceRow : OpenClaim := { program := "ytofdcmbjcpfabaa", sum := "3765e5237329f81fb0601802318dded1b4e54f049ade06c50836f445dbe973bc", func := "prompter/prompterlaw21.TimersOnce", spec := "timersOnce", plainKeys := false, apart := false }
def TimersOnceSaid : Prop := timersOnceRow.holds Try.pinned (OpenSpec.ofChange timersOnceSpec)

/-- ITS FALSE NEIGHBOUR: 'it returns false'. Refute it at one input. -/
def timersOnceWrong : ChangeSpec := { name := "timersOnce", fn := fun _ => fun
  | [d1, d2] => { results := [.lit (.bool false)], args := [d1, d2] }
  | _ => none }
def TimersOnceWrongFalsely : Prop := timersOnceRow.holds Try.pinned (OpenSpec.ofChange timersOnceWrong)

/-- 'prompterlaw22.QueueLeases': WHATEVER THE INPUT: true; the input reads as it did. -/
def queueLeasesSpec : ChangeSpec := { name := "queueLeases", fn := fun _ => fun
  | [d1, d2, d3] => { results := [.lit (.bool true)], args := [d1, d2, d3] }
  | _ => none }
def queueLeasesRow : OpenClaim := { program := "ytofdcmbjcpfabaa", sum := "3765e5237329f81fb0601802318dded1b4e54f049ade06c50836f445dbe973bc", func := "prompter/prompterlaw22.QueueLeases", spec := "queueLeases", unfollowed := true, recurses := true, plainKeys := false, apart := false }
def QueueLeasesSaid : Prop := queueLeasesRow.holds Try.pinned (OpenSpec.ofChange queueLeasesSpec)

/-- ITS FALSE NEIGHBOUR: 'it returns false'. Refute it at one input. -/
def queueLeasesWrong : ChangeSpec := { name := "queueLeases", fn := fun _ => fun
  | [d1, d2, d3] => { results := [.lit (.bool false)], args := [d1, d2, d3] }
  | _ => none }
def QueueLeasesWrongFalsely : Prop := queueLeasesRow.holds Try.pinned (OpenSpec.ofChange queueLeasesWrong)

/-- 'prompterlaw21.TimersDropped': WHATEVER THE INPUT: true; the input reads as it did. -/
def timersDroppedSpec : ChangeSpec := { name := "timersDropped", fn := fun _ => fun
  | [d1, d2, d3, d4] => { results := [.lit (.bool true)], args := [d1, d2, d3, d4] }
  | _ => none }
def timersDroppedRow : OpenClaim := { program := "ytofdcmbjcpfabaa", sum := "3765e5237329f81fb0601802318dded1b4e54f049ade06c50836f445dbe973bc", func := "prompter/prompterlaw21.TimersDropped", spec := "timersDropped", unfollowed := true, recurses := true, plainKeys := false, apart := false }
def TimersDroppedSaid : Prop := timersDroppedRow.holds Try.pinned (OpenSpec.ofChange timersDroppedSpec)

/-- ITS FALSE NEIGHBOUR: 'it returns false'. Refute it at one input. -/
def timersDroppedWrong : ChangeSpec := { name := "timersDropped", fn := fun _ => fun
  | [d1, d2, d3, d4] => { results := [.lit (.bool false)], args := [d1, d2, d3, d4] }
  | _ => none }
def TimersDroppedWrongFalsely : Prop := timersDroppedRow.holds Try.pinned (OpenSpec.ofChange timersDroppedWrong)

/-- 'prompterlaw22.QueueOnce': WHATEVER THE INPUT: true; the input reads as it did. -/
def queueOnceSpec : ChangeSpec := { name := "queueOnce", fn := fun _ => fun
  | [d1, d2, d3] => { results := [.lit (.bool true)], args := [d1, d2, d3] }
  | _ => none }
def queueOnceRow : OpenClaim := { program := "ytofdcmbjcpfabaa", sum := "3765e5237329f81fb0601802318dded1b4e54f049ade06c50836f445dbe973bc", func := "prompter/prompterlaw22.QueueOnce", spec := "queueOnce", unfollowed := true, recurses := true, plainKeys := false, apart := false }
def QueueOnceSaid : Prop := queueOnceRow.holds Try.pinned (OpenSpec.ofChange queueOnceSpec)

/-- ITS FALSE NEIGHBOUR: 'it returns false'. Refute it at one input. -/
def queueOnceWrong : ChangeSpec := { name := "queueOnce", fn := fun _ => fun
  | [d1, d2, d3] => { results := [.lit (.bool false)], args := [d1, d2, d3] }
  | _ => none }
def QueueOnceWrongFalsely : Prop := queueOnceRow.holds Try.pinned (OpenSpec.ofChange queueOnceWrong)

/-- 'prompterlaw03.HeapSorts': WHATEVER THE INPUT: true; the input reads as it did. -/
def heapSortsSpec : ChangeSpec := { name := "heapSorts", fn := fun _ => fun
  | [d] => { results := [.lit (.bool true)], args := [d] }
  | _ => none }
def heapSortsRow : OpenClaim := { program := "ytofdcmbjcpfabaa", sum := "3765e5237329f81fb0601802318dded1b4e54f049ade06c50836f445dbe973bc", func := "prompter/prompterlaw03.HeapSorts", spec := "heapSorts", unfollowed := true, recurses := true, plainKeys := false, apart := false }
def HeapSortsSaid : Prop := heapSortsRow.holds Try.pinned (OpenSpec.ofChange heapSortsSpec)

/-- ITS FALSE NEIGHBOUR: 'it returns false'. Refute it at one input. -/
def heapSortsWrong : ChangeSpec := { name := "heapSorts", fn := fun _ => fun
  | [d] => { results := [.lit (.bool false)], args := [d] }
  | _ => none }
def HeapSortsWrongFalsely : Prop := heapSortsRow.holds Try.pinned (OpenSpec.ofChange heapSortsWrong)

/-- 'prompterlaw03.HeapScript': WHATEVER THE INPUT: true; the input reads as it did. -/
def heapScriptSpec : ChangeSpec := { name := "heapScript", fn := fun _ => fun
  | [d] => { results := [.lit (.bool true)], args := [d] }
  | _ => none }
def heapScriptRow : OpenClaim := { program := "ytofdcmbjcpfabaa", sum := "3765e5237329f81fb0601802318dded1b4e54f049ade06c50836f445dbe973bc", func := "prompter/prompterlaw03.HeapScript", spec := "heapScript", inPlace := ["maps.clone"], unfollowed := true, recurses := true, plainKeys := false, apart := false }
def HeapScriptSaid : Prop := heapScriptRow.holds Try.pinned (OpenSpec.ofChange heapScriptSpec)

/-- ITS FALSE NEIGHBOUR: 'it returns false'. Refute it at one input. -/
def heapScriptWrong : ChangeSpec := { name := "heapScript", fn := fun _ => fun
  | [d] => { results := [.lit (.bool false)], args := [d] }
  | _ => none }
def HeapScriptWrongFalsely : Prop := heapScriptRow.holds Try.pinned (OpenSpec.ofChange heapScriptWrong)

/-- 'prompterlaw03.HeapNobody': WHATEVER THE INPUT: true; the input reads as it did. -/
def heapNobodySpec : ChangeSpec := { name := "heapNobody", fn := fun _ => fun
  | [d1, d2] => { results := [.lit (.bool true)], args := [d1, d2] }
  | _ => none }
def heapNobodyRow : OpenClaim := { program := "ytofdcmbjcpfabaa", sum := "3765e5237329f81fb0601802318dded1b4e54f049ade06c50836f445dbe973bc", func := "prompter/prompterlaw03.HeapNobody", spec := "heapNobody", inPlace := ["maps.clone"], unfollowed := true, recurses := true, plainKeys := false, apart := false }
def HeapNobodySaid : Prop := heapNobodyRow.holds Try.pinned (OpenSpec.ofChange heapNobodySpec)

/-- ITS FALSE NEIGHBOUR: 'it returns false'. Refute it at one input. -/
def heapNobodyWrong : ChangeSpec := { name := "heapNobody", fn := fun _ => fun
  | [d1, d2] => { results := [.lit (.bool false)], args := [d1, d2] }
  | _ => none }
def HeapNobodyWrongFalsely : Prop := heapNobodyRow.holds Try.pinned (OpenSpec.ofChange heapNobodyWrong)

/-- 'prompterlaw21.TimersNobody': WHATEVER THE INPUT: true; the input reads as it did. -/
def timersNobodySpec : ChangeSpec := { name := "timersNobody", fn := fun _ => fun
  | [d1, d2, d3] => { results := [.lit (.bool true)], args := [d1, d2, d3] }
  | _ => none }
def timersNobodyRow : OpenClaim := { program := "ytofdcmbjcpfabaa", sum := "3765e5237329f81fb0601802318dded1b4e54f049ade06c50836f445dbe973bc", func := "prompter/prompterlaw21.TimersNobody", spec := "timersNobody", unfollowed := true, recurses := true, plainKeys := false, apart := false }
def TimersNobodySaid : Prop := timersNobodyRow.holds Try.pinned (OpenSpec.ofChange timersNobodySpec)

/-- ITS FALSE NEIGHBOUR: 'it returns false'. Refute it at one input. -/
def timersNobodyWrong : ChangeSpec := { name := "timersNobody", fn := fun _ => fun
  | [d1, d2, d3] => { results := [.lit (.bool false)], args := [d1, d2, d3] }
  | _ => none }
def TimersNobodyWrongFalsely : Prop := timersNobodyRow.holds Try.pinned (OpenSpec.ofChange timersNobodyWrong)

/-- 'prompterlaw22.QueueNobody': WHATEVER THE INPUT: true; the input reads as it did. -/
def queueNobodySpec : ChangeSpec := { name := "queueNobody", fn := fun _ => fun
  | [d1, d2, d3, d4, d5] => { results := [.lit (.bool true)], args := [d1, d2, d3, d4, d5] }
  | _ => none }
def queueNobodyRow : OpenClaim := { program := "ytofdcmbjcpfabaa", sum := "3765e5237329f81fb0601802318dded1b4e54f049ade06c50836f445dbe973bc", func := "prompter/prompterlaw22.QueueNobody", spec := "queueNobody", inPlace := ["maps.clone"], unfollowed := true, recurses := true, plainKeys := false, apart := false }
def QueueNobodySaid : Prop := queueNobodyRow.holds Try.pinned (OpenSpec.ofChange queueNobodySpec)

/-- ITS FALSE NEIGHBOUR: 'it returns false'. Refute it at one input. -/
def queueNobodyWrong : ChangeSpec := { name := "queueNobody", fn := fun _ => fun
  | [d1, d2, d3, d4, d5] => { results := [.lit (.bool false)], args := [d1, d2, d3, d4, d5] }
  | _ => none }
def QueueNobodyWrongFalsely : Prop := queueNobodyRow.holds Try.pinned (OpenSpec.ofChange queueNobodyWrong)

/-- 'prompterlaw21.TimersOpens': WHATEVER THE INPUT: true; the input reads as it did. -/
def timersOpensSpec : ChangeSpec := { name := "timersOpens", fn := fun _ => fun
  | [d] => { results := [.lit (.bool true)], args := [d] }
  | _ => none }
def timersOpensRow : OpenClaim := { program := "ytofdcmbjcpfabaa", sum := "3765e5237329f81fb0601802318dded1b4e54f049ade06c50836f445dbe973bc", func := "prompter/prompterlaw21.TimersOpens", spec := "timersOpens", unfollowed := true, recurses := true, plainKeys := false, apart := false }
def TimersOpensSaid : Prop := timersOpensRow.holds Try.pinned (OpenSpec.ofChange timersOpensSpec)

/-- ITS FALSE NEIGHBOUR: 'it returns false'. Refute it at one input. -/
def timersOpensWrong : ChangeSpec := { name := "timersOpens", fn := fun _ => fun
  | [d] => { results := [.lit (.bool false)], args := [d] }
  | _ => none }
def TimersOpensWrongFalsely : Prop := timersOpensRow.holds Try.pinned (OpenSpec.ofChange timersOpensWrong)

/-- 'prompterlaw21.TimersKnown': WHATEVER THE INPUT: true; the input reads as it did. -/
def timersKnownSpec : ChangeSpec := { name := "timersKnown", fn := fun _ => fun
  | [] => { results := [.lit (.bool true)], args := [] }
  | _ => none }
def timersKnownRow : OpenClaim := { program := "ytofdcmbjcpfabaa", sum := "3765e5237329f81fb0601802318dded1b4e54f049ade06c50836f445dbe973bc", func := "prompter/prompterlaw21.TimersKnown", spec := "timersKnown", unfollowed := true, recurses := true, plainKeys := false, apart := false }
def TimersKnownSaid : Prop := timersKnownRow.holds Try.pinned (OpenSpec.ofChange timersKnownSpec)

/-- ITS FALSE NEIGHBOUR: 'it returns false'. Refute it at one input. -/
def timersKnownWrong : ChangeSpec := { name := "timersKnown", fn := fun _ => fun
  | [] => { results := [.lit (.bool false)], args := [] }
  | _ => none }
def TimersKnownWrongFalsely : Prop := timersKnownRow.holds Try.pinned (OpenSpec.ofChange timersKnownWrong)

/-- 'prompterlaw22.QueueKnown': WHATEVER THE INPUT: true; the input reads as it did. -/
def queueKnownSpec : ChangeSpec := { name := "queueKnown", fn := fun _ => fun
  | [] => { results := [.lit (.bool true)], args := [] }
  | _ => none }
def queueKnownRow : OpenClaim := { program := "ytofdcmbjcpfabaa", sum := "3765e5237329f81fb0601802318dded1b4e54f049ade06c50836f445dbe973bc", func := "prompter/prompterlaw22.QueueKnown", spec := "queueKnown", unfollowed := true, recurses := true, plainKeys := false, apart := false }
def QueueKnownSaid : Prop := queueKnownRow.holds Try.pinned (OpenSpec.ofChange queueKnownSpec)

/-- ITS FALSE NEIGHBOUR: 'it returns false'. Refute it at one input. -/
def queueKnownWrong : ChangeSpec := { name := "queueKnown", fn := fun _ => fun
  | [] => { results := [.lit (.bool false)], args := [] }
  | _ => none }
def QueueKnownWrongFalsely : Prop := queueKnownRow.holds Try.pinned (OpenSpec.ofChange queueKnownWrong)

/-- 'prompterlaw21.TimersScript': WHATEVER THE INPUT: true; the input reads as it did. -/
def timersScriptSpec : ChangeSpec := { name := "timersScript", fn := fun _ => fun
  | [d] => { results := [.lit (.bool true)], args := [d] }
  | _ => none }
def timersScriptRow : OpenClaim := { program := "ytofdcmbjcpfabaa", sum := "3765e5237329f81fb0601802318dded1b4e54f049ade06c50836f445dbe973bc", func := "prompter/prompterlaw21.TimersScript", spec := "timersScript", unfollowed := true, recurses := true, plainKeys := false, apart := false }
def TimersScriptSaid : Prop := timersScriptRow.holds Try.pinned (OpenSpec.ofChange timersScriptSpec)

/-- ITS FALSE NEIGHBOUR: 'it returns false'. Refute it at one input. -/
def timersScriptWrong : ChangeSpec := { name := "timersScript", fn := fun _ => fun
  | [d] => { results := [.lit (.bool false)], args := [d] }
  | _ => none }
def TimersScriptWrongFalsely : Prop := timersScriptRow.holds Try.pinned (OpenSpec.ofChange timersScriptWrong)

/- THE SECOND FORM. 'bulk': how many values and letters a reading holds, each counted each time it is reached (what is shared counts as often as it is met; a slice's spare places count too). A statement '..UptoSaid' is the law's where the arguments, and the package variables that the reading takes, are together of bulk at most 1048576: NARROWER than '..Said'. Prove '..Said' where nothing that the law and all that it calls make is longer than what came in: it says more and counts as full. Else prove '..UptoSaid'. A law counts once. -/
mutual
def uptoBulk {H : Type} : DataW H → Nat
  | .lit (.string bytes) => bytes.length + 1
  | .lit _ => 1
  | .nil => 1
  | .ptr d => uptoBulk d + 1
  | .slice elems spare => uptoBulkAll elems + uptoBulkAll spare + 1
  | .agg parts => uptoBulkAll parts + 1
  | .iface _ d => uptoBulk d + 1
  | .map entries => uptoBulkEntries entries + 1
  | .held _ => 1
def uptoBulkAll {H : Type} : List (DataW H) → Nat
  | [] => 0
  | d :: r => uptoBulk d + uptoBulkAll r
def uptoBulkEntries {H : Type} : List (Lit × DataW H) → Nat
  | [] => 0
  | x :: r => uptoBulkEntry x + uptoBulkEntries r
def uptoBulkEntry {H : Type} : Lit × DataW H → Nat
  | (.string bytes, d) => bytes.length + uptoBulk d + 1
  | (_, d) => uptoBulk d + 1
 end
def uptoSmall : (H : Type) → List (DataW H) → Bool := fun _ ds => decide (uptoBulkAll ds ≤ 1048576)
def OpenSpec.upto (s : _root_.Go.ChangeSpec) : _root_.Go.OpenSpec := { _root_.Go.OpenSpec.ofChange s with cond := some uptoSmall }

/-- 'prompterlaw22.QueueOrder', WHERE WHAT IT READS IS OF BULK AT MOST 1048576: true; the input reads as it did. -/
def queueOrderUptoRow : OpenClaim := { program := "ytofdcmbjcpfabaa", sum := "3765e5237329f81fb0601802318dded1b4e54f049ade06c50836f445dbe973bc", func := "prompter/prompterlaw22.QueueOrder", spec := "queueOrder", inPlace := ["maps.clone"], unfollowed := true, recurses := true, plainKeys := false, apart := false, narrowed := true }
def QueueOrderUptoSaid : Prop := queueOrderUptoRow.holds Try.pinned (OpenSpec.upto queueOrderSpec)

/-- 'prompterlaw03.HeapTakes', WHERE WHAT IT READS IS OF BULK AT MOST 1048576: true; the input reads as it did. -/
def heapTakesUptoRow : OpenClaim := { program := "ytofdcmbjcpfabaa", sum := "3765e5237329f81fb0601802318dded1b4e54f049ade06c50836f445dbe973bc", func := "prompter/prompterlaw03.HeapTakes", spec := "heapTakes", plainKeys := false, apart := false, narrowed := true }
def HeapTakesUptoSaid : Prop := heapTakesUptoRow.holds Try.pinned (OpenSpec.upto heapTakesSpec)

/-- 'prompterlaw21.TimersOnce', WHERE WHAT IT READS IS OF BULK AT MOST 1048576: true; the input reads as it did. -/
def timersOnceUptoRow : OpenClaim := { program := "ytofdcmbjcpfabaa", sum := "3765e5237329f81fb0601802318dded1b4e54f049ade06c50836f445dbe973bc", func := "prompter/prompterlaw21.TimersOnce", spec := "timersOnce", plainKeys := false, apart := false, narrowed := true }
def TimersOnceUptoSaid : Prop := timersOnceUptoRow.holds Try.pinned (OpenSpec.upto timersOnceSpec)

/-- 'prompterlaw22.QueueLeases', WHERE WHAT IT READS IS OF BULK AT MOST 1048576: true; the input reads as it did. -/
def queueLeasesUptoRow : OpenClaim := { program := "ytofdcmbjcpfabaa", sum := "3765e5237329f81fb0601802318dded1b4e54f049ade06c50836f445dbe973bc", func := "prompter/prompterlaw22.QueueLeases", spec := "queueLeases", unfollowed := true, recurses := true, plainKeys := false, apart := false, narrowed := true }
def QueueLeasesUptoSaid : Prop := queueLeasesUptoRow.holds Try.pinned (OpenSpec.upto queueLeasesSpec)

/-- 'prompterlaw21.TimersDropped', WHERE WHAT IT READS IS OF BULK AT MOST 1048576: true; the input reads as it did. -/
def timersDroppedUptoRow : OpenClaim := { program := "ytofdcmbjcpfabaa", sum := "3765e5237329f81fb0601802318dded1b4e54f049ade06c50836f445dbe973bc", func := "prompter/prompterlaw21.TimersDropped", spec := "timersDropped", unfollowed := true, recurses := true, plainKeys := false, apart := false, narrowed := true }
def TimersDroppedUptoSaid : Prop := timersDroppedUptoRow.holds Try.pinned (OpenSpec.upto timersDroppedSpec)

/-- 'prompterlaw22.QueueOnce', WHERE WHAT IT READS IS OF BULK AT MOST 1048576: true; the input reads as it did. -/
def queueOnceUptoRow : OpenClaim := { program := "ytofdcmbjcpfabaa", sum := "3765e5237329f81fb0601802318dded1b4e54f049ade06c50836f445dbe973bc", func := "prompter/prompterlaw22.QueueOnce", spec := "queueOnce", unfollowed := true, recurses := true, plainKeys := false, apart := false, narrowed := true }
def QueueOnceUptoSaid : Prop := queueOnceUptoRow.holds Try.pinned (OpenSpec.upto queueOnceSpec)

/-- 'prompterlaw03.HeapSorts', WHERE WHAT IT READS IS OF BULK AT MOST 1048576: true; the input reads as it did. -/
def heapSortsUptoRow : OpenClaim := { program := "ytofdcmbjcpfabaa", sum := "3765e5237329f81fb0601802318dded1b4e54f049ade06c50836f445dbe973bc", func := "prompter/prompterlaw03.HeapSorts", spec := "heapSorts", unfollowed := true, recurses := true, plainKeys := false, apart := false, narrowed := true }
def HeapSortsUptoSaid : Prop := heapSortsUptoRow.holds Try.pinned (OpenSpec.upto heapSortsSpec)

/-- 'prompterlaw03.HeapScript', WHERE WHAT IT READS IS OF BULK AT MOST 1048576: true; the input reads as it did. -/
def heapScriptUptoRow : OpenClaim := { program := "ytofdcmbjcpfabaa", sum := "3765e5237329f81fb0601802318dded1b4e54f049ade06c50836f445dbe973bc", func := "prompter/prompterlaw03.HeapScript", spec := "heapScript", inPlace := ["maps.clone"], unfollowed := true, recurses := true, plainKeys := false, apart := false, narrowed := true }
def HeapScriptUptoSaid : Prop := heapScriptUptoRow.holds Try.pinned (OpenSpec.upto heapScriptSpec)

/-- 'prompterlaw03.HeapNobody', WHERE WHAT IT READS IS OF BULK AT MOST 1048576: true; the input reads as it did. -/
def heapNobodyUptoRow : OpenClaim := { program := "ytofdcmbjcpfabaa", sum := "3765e5237329f81fb0601802318dded1b4e54f049ade06c50836f445dbe973bc", func := "prompter/prompterlaw03.HeapNobody", spec := "heapNobody", inPlace := ["maps.clone"], unfollowed := true, recurses := true, plainKeys := false, apart := false, narrowed := true }
def HeapNobodyUptoSaid : Prop := heapNobodyUptoRow.holds Try.pinned (OpenSpec.upto heapNobodySpec)

/-- 'prompterlaw21.TimersNobody', WHERE WHAT IT READS IS OF BULK AT MOST 1048576: true; the input reads as it did. -/
def timersNobodyUptoRow : OpenClaim := { program := "ytofdcmbjcpfabaa", sum := "3765e5237329f81fb0601802318dded1b4e54f049ade06c50836f445dbe973bc", func := "prompter/prompterlaw21.TimersNobody", spec := "timersNobody", unfollowed := true, recurses := true, plainKeys := false, apart := false, narrowed := true }
def TimersNobodyUptoSaid : Prop := timersNobodyUptoRow.holds Try.pinned (OpenSpec.upto timersNobodySpec)

/-- 'prompterlaw22.QueueNobody', WHERE WHAT IT READS IS OF BULK AT MOST 1048576: true; the input reads as it did. -/
def queueNobodyUptoRow : OpenClaim := { program := "ytofdcmbjcpfabaa", sum := "3765e5237329f81fb0601802318dded1b4e54f049ade06c50836f445dbe973bc", func := "prompter/prompterlaw22.QueueNobody", spec := "queueNobody", inPlace := ["maps.clone"], unfollowed := true, recurses := true, plainKeys := false, apart := false, narrowed := true }
def QueueNobodyUptoSaid : Prop := queueNobodyUptoRow.holds Try.pinned (OpenSpec.upto queueNobodySpec)

/-- 'prompterlaw21.TimersOpens', WHERE WHAT IT READS IS OF BULK AT MOST 1048576: true; the input reads as it did. -/
def timersOpensUptoRow : OpenClaim := { program := "ytofdcmbjcpfabaa", sum := "3765e5237329f81fb0601802318dded1b4e54f049ade06c50836f445dbe973bc", func := "prompter/prompterlaw21.TimersOpens", spec := "timersOpens", unfollowed := true, recurses := true, plainKeys := false, apart := false, narrowed := true }
def TimersOpensUptoSaid : Prop := timersOpensUptoRow.holds Try.pinned (OpenSpec.upto timersOpensSpec)

/-- 'prompterlaw21.TimersKnown', WHERE WHAT IT READS IS OF BULK AT MOST 1048576: true; the input reads as it did. -/
def timersKnownUptoRow : OpenClaim := { program := "ytofdcmbjcpfabaa", sum := "3765e5237329f81fb0601802318dded1b4e54f049ade06c50836f445dbe973bc", func := "prompter/prompterlaw21.TimersKnown", spec := "timersKnown", unfollowed := true, recurses := true, plainKeys := false, apart := false, narrowed := true }
def TimersKnownUptoSaid : Prop := timersKnownUptoRow.holds Try.pinned (OpenSpec.upto timersKnownSpec)

/-- 'prompterlaw22.QueueKnown', WHERE WHAT IT READS IS OF BULK AT MOST 1048576: true; the input reads as it did. -/
def queueKnownUptoRow : OpenClaim := { program := "ytofdcmbjcpfabaa", sum := "3765e5237329f81fb0601802318dded1b4e54f049ade06c50836f445dbe973bc", func := "prompter/prompterlaw22.QueueKnown", spec := "queueKnown", unfollowed := true, recurses := true, plainKeys := false, apart := false, narrowed := true }
def QueueKnownUptoSaid : Prop := queueKnownUptoRow.holds Try.pinned (OpenSpec.upto queueKnownSpec)

/-- 'prompterlaw21.TimersScript', WHERE WHAT IT READS IS OF BULK AT MOST 1048576: true; the input reads as it did. -/
def timersScriptUptoRow : OpenClaim := { program := "ytofdcmbjcpfabaa", sum := "3765e5237329f81fb0601802318dded1b4e54f049ade06c50836f445dbe973bc", func := "prompter/prompterlaw21.TimersScript", spec := "timersScript", unfollowed := true, recurses := true, plainKeys := false, apart := false, narrowed := true }
def TimersScriptUptoSaid : Prop := timersScriptUptoRow.holds Try.pinned (OpenSpec.upto timersScriptSpec)

end Rows
end Go.Proofs.Ytofdcmbjcpfabaa
