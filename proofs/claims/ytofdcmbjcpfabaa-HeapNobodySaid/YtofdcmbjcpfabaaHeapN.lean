/- Heaps that nobody made: HeapNobody. -/
import Derived.Test.YtofdcmbjcpfabaaHeapKI
import Derived.Test.YtofdcmbjcpfabaaLaw03a
namespace Go.Proofs.Ytofdcmbjcpfabaa
open Go.RowKit Go.Maps Go.MapKept Go.ChangeMaps
attribute [local go_sem ↓] Go.wp_at_zero Go.wp_at_succ

/-- A pointer to no heap, or to one of zeroes. -/
def NobodyH (w : World) (p : Option Addr) : Prop := p = none ∨ ∃ b, p = some ⟨b, 0, none⟩ ∧ w.heap[b]? = some (.cells #[.bool false, .slice none 0 0, .map none, .int .i64 0] 102 (0, 0))

section
variable {w : World} {p : Option Addr}

theorem NobodyH.keep (h : NobodyH w p) {w' : World} (hk : Keeps NoBlk w w') : NobodyH w' p := by
  rcases h with rfl | ⟨b, rfl, h⟩
  · exact .inl rfl
  · exact .inr ⟨b, rfl, (hk.block b (block_lt h) id).trans h⟩

theorem NobodyH.cells {b : Nat} (h : w.heap[b]? = some (.cells #[.bool false, .slice none 0 0, .map none, .int .i64 0] 102 (0, 0))) :
    w.cell? ⟨b, 0, none⟩ = some (.bool false) ∧ w.cell? ⟨b, 1, none⟩ = some (.slice none 0 0) ∧ w.cell? ⟨b, 2, none⟩ = some (.map none) := by
  refine ⟨?_, ?_, ?_⟩ <;> (rw [cell_of_row _ _ _ _ _ _ h]; rfl)

theorem nhpush_c (h : NobodyH w p) (key v : Int) : Calls Try.prog 51 #[.pointer p, .int .i64 key, .int .i64 v] w fun e w' => e = .returned (.int .i64 (-1)) ∧ Keeps NoBlk w w' := by
  rcases h with rfl | ⟨b, rfl, h⟩
  · go_enter Try.func51, Try.ntmps51
    go_wp2
    go_ret
    exact ⟨rfl, Keeps.refl _ _⟩
  · obtain ⟨c0, c1, c2⟩ := NobodyH.cells h
    go_enter Try.func51, Try.ntmps51
    go_wp2
    go_ret
    exact ⟨rfl, Keeps.refl _ _⟩

theorem nhlen_c (h : NobodyH w p) : Calls Try.prog 30 #[.pointer p] w fun e w' => e = .returned (.int .i64 0) ∧ Keeps NoBlk w w' := by
  rcases h with rfl | ⟨b, rfl, h⟩
  · go_enter Try.func30, Try.ntmps30
    go_wp2
    go_ret
    exact ⟨rfl, Keeps.refl _ _⟩
  · obtain ⟨c0, c1, c2⟩ := NobodyH.cells h
    go_enter Try.func30, Try.ntmps30
    go_wp2
    go_ret
    exact ⟨rfl, Keeps.refl _ _⟩

theorem nhcopy_c (h : NobodyH w p) : Calls Try.prog 56 #[.pointer p] w fun e w' => e = .returned (.pointer none) ∧ Keeps NoBlk w w' := by
  rcases h with rfl | ⟨b, rfl, h⟩
  · go_enter Try.func56, Try.ntmps56
    go_wp2
    go_ret
    exact ⟨rfl, Keeps.refl _ _⟩
  · obtain ⟨c0, c1, c2⟩ := NobodyH.cells h
    go_enter Try.func56, Try.ntmps56
    go_wp2
    go_ret
    exact ⟨rfl, Keeps.refl _ _⟩

/-- A look into no map. -/
theorem look_none (n : Int) (hwn : (Lit.int .i64 n).wf = true) (W : World) : (Instr.lookup 100 (.map none) (.int .i64 n) true).run Try.prog W = .ok (.tuple #[.int .i64 0, .bool false]) W := by
  simp [Instr.lookup, run_underlying Try.underlying100, keyI.check W _ (keyOf_int_mk Try.underlying3 hwn), Result.andThen, Instr.findKey, Instr.findNow, zeroInt W]

theorem nhfind_c (h : NobodyH w p) (n : Int) (hwn : (Lit.int .i64 n).wf = true) : Calls Try.prog 93 #[.pointer p, .int .i64 n] w fun e w' => e = .returned (.tuple #[.int .i64 0, .bool false]) ∧ Keeps NoBlk w w' := by
  rcases h with rfl | ⟨b, rfl, h⟩
  · go_enter Try.func93, Try.ntmps93
    go_wp2
    go_ret2
    exact ⟨rfl, Keeps.refl _ _⟩
  · obtain ⟨c0, c1, c2⟩ := NobodyH.cells h
    have hl := look_none n hwn
    go_enter Try.func93, Try.ntmps93
    go_wp2
    go_ret2
    exact ⟨rfl, Keeps.refl _ _⟩

theorem nhpeek_c (h : NobodyH w p) : Calls Try.prog 58 #[.pointer p] w fun e w' => e = .returned (.tuple #[.int .i64 0, .int .i64 0, .int .i64 0, .bool false]) ∧ Keeps NoBlk w w' := by
  have hm := nhlen_c h
  clear h
  go_enter Try.func58, Try.ntmps58
  go_wp2_with fail
  refine hm.mono ?_
  rintro e w1 ⟨rfl, k1⟩
  go_wp2_with fail
  refine bodyPost_ret (v := .tuple #[.int .i64 0, .int .i64 0, .int .i64 0, .bool false]) (by simp [results, go_sem]) rfl ?_
  exact ⟨rfl, k1⟩

theorem nhpop_c (h : NobodyH w p) : Calls Try.prog 31 #[.pointer p] w fun e w' => e = .returned (.tuple #[.int .i64 0, .int .i64 0, .int .i64 0, .bool false]) ∧ Keeps NoBlk w w' := by
  have hm := nhpeek_c h
  clear h
  go_enter Try.func31, Try.ntmps31
  go_wp2_with fail
  refine hm.mono ?_
  rintro e w1 ⟨rfl, k1⟩
  go_wp2_with fail
  refine bodyPost_ret (v := .tuple #[.int .i64 0, .int .i64 0, .int .i64 0, .bool false]) (by simp [results, go_sem]) rfl ?_
  exact ⟨rfl, k1⟩

theorem nhremove_c (h : NobodyH w p) (n : Int) (hwn : (Lit.int .i64 n).wf = true) : Calls Try.prog 29 #[.pointer p, .int .i64 n] w fun e w' => e = .returned (.tuple #[.int .i64 0, .bool false]) ∧ Keeps NoBlk w w' := by
  have hm := nhfind_c h n hwn
  clear h
  go_enter Try.func29, Try.ntmps29
  go_wp2_with fail
  refine hm.mono ?_
  rintro e w1 ⟨rfl, k1⟩
  go_wp2_with fail
  go_ret2
  exact ⟨rfl, k1⟩

theorem nhchange_c (h : NobodyH w p) (n key : Int) (hwn : (Lit.int .i64 n).wf = true) : Calls Try.prog 28 #[.pointer p, .int .i64 n, .int .i64 key] w fun e w' => e = .returned (.bool false) ∧ Keeps NoBlk w w' := by
  have hm := nhfind_c h n hwn
  clear h
  go_enter Try.func28, Try.ntmps28
  go_wp2_with fail
  refine hm.mono ?_
  rintro e w1 ⟨rfl, k1⟩
  go_wp2_with fail
  go_ret
  exact ⟨rfl, k1⟩

theorem nhsorted_c (h : NobodyH w p) : Calls Try.prog 104 #[.pointer p] w (OrderedI w []) := by
  rcases h with rfl | ⟨b, rfl, h⟩
  · go_enter Try.func104, Try.ntmps104
    go_wp2
    go_ret
    exact ⟨none, 0, [], rfl, List.Perm.refl _, List.Pairwise.nil, RowV.nil _ _ _ _, (fun b hb => by cases hb), Keeps.refl _ _⟩
  · exact sortedI_raw w b _ [] (NobodyH.cells h).2.1 (RowV.nil _ _ _ _) (by simp)

theorem nhkeys_c (h : NobodyH w p) : Calls Try.prog 48 #[.pointer p] w fun e w' => (∃ a c, e = .returned (.slice a 0 c)) ∧ Keeps NoBlk w w' := by
  refine (keysI_raw w p [] (nhsorted_c h) (by simp)).mono ?_
  rintro e w' ⟨a, c, l', rfl, hp, _, _, _, hk⟩
  rw [hp.length_eq]
  exact ⟨⟨a, c, rfl⟩, hk⟩

theorem nhall_c (h : NobodyH w p) : Calls Try.prog 49 #[.pointer p] w fun e w' => (∃ a c, e = .returned (.slice a 0 c)) ∧ Keeps NoBlk w w' := by
  refine (allI_raw w p [] (nhsorted_c h) (by simp)).mono ?_
  rintro e w' ⟨a, c, l', rfl, hp, _, _, _, hk⟩
  rw [hp.length_eq]
  exact ⟨⟨a, c, rfl⟩, hk⟩
end

/-- The two pointers, and what they lead to. -/
structure TwoH (w wr : World) (B C : Nat) : Prop where
  z : wr.heap[B]? = some (.cells #[.bool false, .slice none 0 0, .map none, .int .i64 0] 102 (0, 0))
  l0 : wr.cell? ⟨C, 0, none⟩ = some (.pointer none)
  l1 : wr.cell? ⟨C, 1, none⟩ = some (.pointer (some ⟨B, 0, none⟩))
  lt : C < wr.heap.size
  k : Keeps NoBlk w wr

theorem TwoH.keep {w wr w' : World} {B C : Nat} (h : TwoH w wr B C) (hk : Keeps NoBlk wr w') : TwoH w w' B C :=
  ⟨(hk.block B (block_lt h.z) id).trans h.z, (hk.cell (p := ⟨C, 0, none⟩) h.lt id).trans h.l0, (hk.cell (p := ⟨C, 1, none⟩) h.lt id).trans h.l1, Nat.lt_of_lt_of_le h.lt hk.size, h.k.trans hk (fun _ _ x => x)⟩

set_option maxRecDepth 100000 in
set_option maxHeartbeats 8000000 in
theorem nobody03_c (w : World) (key n : Int) (hwn : (Lit.int .i64 n).wf = true) : Calls Try.prog 11 #[.int .i64 key, .int .i64 n] w fun e w' => e = .returned (.bool true) ∧ Below w.heap.size w w' := by
  obtain ⟨B, hB⟩ : ∃ B, w.heap.size = B := ⟨_, rfl⟩
  go_enter Try.func11, Try.ntmps11
  go_wp2_with fail
  generalize hw1 : w.alloc _ = w1
  have h1 : w1.heap[B]? = some (.cells #[.bool false, .slice none 0 0, .map none, .int .i64 0] 102 (0, 0)) := by
    subst hw1 hB
    exact heap_alloc_new _ _
  have k1 : Keeps NoBlk w w1 := by
    subst hw1
    exact (Keeps.refl _ _).alloc _
  clear hw1
  have hn0 : NobodyH w1 none := .inl rfl
  have hnz : NobodyH w1 (some ⟨B, 0, none⟩) := .inr ⟨B, rfl, h1⟩
  have hk : Keeps NoBlk w1 w1 := Keeps.refl _ _
  go_wp2_with (first
      | (go_at_call 26; (with_reducible refine (awake03_c _).mono ?_); rintro e w9 ⟨rfl, k9⟩; replace hk := hk.trans k9 (fun _ _ x => x))
      | (go_at_call 51; (with_reducible refine (nhpush_c (hn0.keep hk) _ _).mono ?_); rintro e w9 ⟨rfl, k9⟩; replace hk := hk.trans k9 (fun _ _ x => x))
      | (go_at_call 51; (with_reducible refine (nhpush_c (hnz.keep hk) _ _).mono ?_); rintro e w9 ⟨rfl, k9⟩; replace hk := hk.trans k9 (fun _ _ x => x))
      | (go_at_call 56; (with_reducible refine (nhcopy_c (hn0.keep hk)).mono ?_); rintro e w9 ⟨rfl, k9⟩; replace hk := hk.trans k9 (fun _ _ x => x))
      | (go_at_call 56; (with_reducible refine (nhcopy_c (hnz.keep hk)).mono ?_); rintro e w9 ⟨rfl, k9⟩; replace hk := hk.trans k9 (fun _ _ x => x)))
  obtain ⟨C, hC⟩ : ∃ C, w9.heap.size = C := ⟨_, rfl⟩
  generalize hw2 : w9.alloc _ = w2
  have h2 : w2.heap[C]? = some (.cells #[.pointer none, .pointer (some ⟨B, 0, none⟩)] 103 (0, 0)) := by
    subst hw2 hC
    exact heap_alloc_new _ _
  have k2 : Keeps NoBlk w1 w2 := by
    subst hw2
    exact hk.alloc _
  have hS : TwoH w w2 B C :=
    ⟨(k2.block B (block_lt h1) id).trans h1, by rw [cell_of_row _ _ _ _ _ _ h2]; rfl, by rw [cell_of_row _ _ _ _ _ _ h2]; rfl, block_lt h2, k1.trans k2 (fun _ _ x => x)⟩
  rw [hC]
  clear hw2 h2 k2 hk hn0 hnz h1 k1 k9
  go_loopw [8] (fun iv wr => ∃ k : Nat, iv = .int .i64 k ∧ k ≤ 2 ∧ TwoH w wr B C) (fun iv _ => 2 - (intOf iv).toNat)
  case atStart => exact ⟨0, rfl, by omega, hS⟩
  case round =>
    clear hS
    obtain ⟨k, rfl, hk2, hT⟩ := hrel
    obtain ⟨hz, hL0, hL1, hlt, hK⟩ := id hT
    have hS : ∀ {w'}, Keeps NoBlk wr w' → TwoH w w' B C := fun h => hT.keep h
    rcases (by omega : k = 0 ∨ k = 1 ∨ k = 2) with rfl | rfl | rfl
    · have hN : NobodyH wr none := .inl rfl
      have hk : Keeps NoBlk wr wr := Keeps.refl _ _
      go_wp2_with (first
      | (go_at_call 58; (with_reducible refine (nhpeek_c (hN.keep hk)).mono ?_); rintro e w9 ⟨rfl, k9⟩; replace hk := hk.trans k9 (fun _ _ x => x))
      | (go_at_call 31; (with_reducible refine (nhpop_c (hN.keep hk)).mono ?_); rintro e w9 ⟨rfl, k9⟩; replace hk := hk.trans k9 (fun _ _ x => x))
      | (go_at_call 29; (with_reducible refine (nhremove_c (hN.keep hk) n hwn).mono ?_); rintro e w9 ⟨rfl, k9⟩; replace hk := hk.trans k9 (fun _ _ x => x))
      | (go_at_call 28; (with_reducible refine (nhchange_c (hN.keep hk) n key hwn).mono ?_); rintro e w9 ⟨rfl, k9⟩; replace hk := hk.trans k9 (fun _ _ x => x))
      | (go_at_call 30; (with_reducible refine (nhlen_c (hN.keep hk)).mono ?_); rintro e w9 ⟨rfl, k9⟩; replace hk := hk.trans k9 (fun _ _ x => x))
      | (go_at_call 48; (with_reducible refine (nhkeys_c (hN.keep hk)).mono ?_); rintro e w9 ⟨⟨a9, d9, rfl⟩, k9⟩; replace hk := hk.trans k9 (fun _ _ x => x))
      | (go_at_call 49; (with_reducible refine (nhall_c (hN.keep hk)).mono ?_); rintro e w9 ⟨⟨a9, d9, rfl⟩, k9⟩; replace hk := hk.trans k9 (fun _ _ x => x)))
      go_roundw
      case rel => exact ⟨1, by go_num, by omega, hS hk⟩
      case measure => simp [intOf]
    · have hN : NobodyH wr (some ⟨B, 0, none⟩) := .inr ⟨B, rfl, hz⟩
      have hk : Keeps NoBlk wr wr := Keeps.refl _ _
      go_wp2_with (first
      | (go_at_call 58; (with_reducible refine (nhpeek_c (hN.keep hk)).mono ?_); rintro e w9 ⟨rfl, k9⟩; replace hk := hk.trans k9 (fun _ _ x => x))
      | (go_at_call 31; (with_reducible refine (nhpop_c (hN.keep hk)).mono ?_); rintro e w9 ⟨rfl, k9⟩; replace hk := hk.trans k9 (fun _ _ x => x))
      | (go_at_call 29; (with_reducible refine (nhremove_c (hN.keep hk) n hwn).mono ?_); rintro e w9 ⟨rfl, k9⟩; replace hk := hk.trans k9 (fun _ _ x => x))
      | (go_at_call 28; (with_reducible refine (nhchange_c (hN.keep hk) n key hwn).mono ?_); rintro e w9 ⟨rfl, k9⟩; replace hk := hk.trans k9 (fun _ _ x => x))
      | (go_at_call 30; (with_reducible refine (nhlen_c (hN.keep hk)).mono ?_); rintro e w9 ⟨rfl, k9⟩; replace hk := hk.trans k9 (fun _ _ x => x))
      | (go_at_call 48; (with_reducible refine (nhkeys_c (hN.keep hk)).mono ?_); rintro e w9 ⟨⟨a9, d9, rfl⟩, k9⟩; replace hk := hk.trans k9 (fun _ _ x => x))
      | (go_at_call 49; (with_reducible refine (nhall_c (hN.keep hk)).mono ?_); rintro e w9 ⟨⟨a9, d9, rfl⟩, k9⟩; replace hk := hk.trans k9 (fun _ _ x => x)))
      go_roundw
      case rel => exact ⟨2, by go_num, by omega, hS hk⟩
      case measure => simp [intOf]
    · go_wp2_with fail
      go_ret
      exact ⟨rfl, hK.below (Nat.le_refl _) (fun _ x => x.elim)⟩

end Go.Proofs.Ytofdcmbjcpfabaa
