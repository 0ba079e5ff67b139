/- What the texts on iterators share. -/
import Derived.Test.YtofdcmbjcpfabaaKit
import Derived.RangeFuncNested
import Derived.RangeFuncBox
import Derived.RangeFuncLeaves
import Derived.Shelf.Abstract
import Derived.OwnWalkIn
import Derived.Below
namespace Go.Proofs.Ytofdcmbjcpfabaa
open Go.RowKit Go.Shelf

/-- What a round that goes on keeps. -/
def Kp (n₀ : Nat) (A B : World) : Prop := Below n₀ A B ∧ KeepsWalks A B

theorem Kp_t {n₀ : Nat} {A B C : World} (h : Kp n₀ A B) (k : Kp n₀ B C) : Kp n₀ A C := ⟨belowK_t h.1 k.1, walksK_t h.2 k.2⟩

theorem Kp_b {n₀ : Nat} {w : World} (hn : n₀ ≤ w.heap.size) (W : World) (l : Nat) (o o' : Obj) (hl : w.heap.size ≤ l) (h : W.heap[l]? = some o) (h1 : o.isCells = false) (h2 : o.isWalk = false) : Kp n₀ W (W.putObj l o') :=
  ⟨belowK_b hn W l o o' hl h h1 h2, walksK_b W l o o' hl h h1 h2⟩

theorem KeepsOthers.walks {A B : World} (h : KeepsOthers A B) : KeepsWalks A B := ⟨h.size, fun k o hk hw => h.same k o hk (by cases o <;> first | rfl | cases hw)⟩

/-- What an iterator leaves. -/
def SeqPost {α : Type} (S Sp : List α → Prop) (J Jx : List α → World → Prop) (e : Ending) (W' : World) : Prop := (∃ v, e = .returned v) ∧ ((∃ xs, S xs ∧ J xs W') ∨ (∃ pre, Sp pre ∧ Jx pre W'))

theorem below_keeps0 {w w' : World} (h : Go.RowKit.Below w.heap.size w w') : Keeps NoBlk w w' := ⟨h.os, h.tape, h.output, h.size, fun k hk _ => h.block k hk⟩

end Go.Proofs.Ytofdcmbjcpfabaa
