/- Queues that nobody made: QueueNobody. -/
import Derived.Test.YtofdcmbjcpfabaaLaw22a
namespace Go.Proofs.Ytofdcmbjcpfabaa
open Go.RowKit Go.Maps Go.MapKept Go.ChangeMaps
attribute [local go_sem ↓] Go.wp_at_zero Go.wp_at_succ

/-- A pointer to no queue, or to one whose next token is 0. -/
def NobodyQ (w : World) (p : Option Addr) : Prop := p = none ∨ ∃ b, p = some ⟨b, 0, none⟩ ∧ w.cell? ⟨b, 2, none⟩ = some (.int .i64 0) ∧ b < w.heap.size

section
variable {w : World} {p : Option Addr}

theorem NobodyQ.keep (h : NobodyQ w p) {w' : World} (hk : Keeps NoBlk w w') : NobodyQ w' p := by
  rcases h with rfl | ⟨b, rfl, h, hb⟩
  · exact .inl rfl
  · exact .inr ⟨b, rfl, (hk.cell (p := ⟨b, 2, none⟩) hb id).trans h, Nat.lt_of_lt_of_le hb hk.size⟩

theorem nqmade_c (h : NobodyQ w p) : Calls Try.prog 78 #[.pointer p] w fun e w' => e = .returned (.bool false) ∧ w = w' := by
  rcases h with rfl | ⟨b, rfl, h, _⟩
  · go_enter Try.func78, Try.ntmps78
    go_wp2
    go_ret
    exact ⟨rfl, rfl⟩
  · go_enter Try.func78, Try.ntmps78
    go_wp2
    go_ret
    exact ⟨rfl, rfl⟩

theorem nqput_c (h : NobodyQ w p) (key st : ByteArray) (r : Int) : Calls Try.prog 20 #[.pointer p, .string key, .string st, .int .i64 r] w fun e w' => e = .returned (.int .i64 1) ∧ Keeps NoBlk w w' := by
  have hm := nqmade_c h
  clear h
  go_enter Try.func20, Try.ntmps20
  go_wp2_with fail
  refine hm.mono ?_
  rintro e w1 ⟨rfl, rfl⟩
  go_wp2_with fail
  go_ret
  exact ⟨rfl, Keeps.refl _ _⟩

theorem nqbeat_c (h : NobodyQ w p) (a b c : Int) : Calls Try.prog 37 #[.pointer p, .int .i64 a, .int .i64 b, .int .i64 c] w fun e w' => e = .returned (.int .i64 1) ∧ Keeps NoBlk w w' := by
  have hm := nqmade_c h
  clear h
  go_enter Try.func37, Try.ntmps37
  go_wp2_with fail
  refine hm.mono ?_
  rintro e w1 ⟨rfl, rfl⟩
  go_wp2_with fail
  go_ret
  exact ⟨rfl, Keeps.refl _ _⟩

theorem nqlen_c (h : NobodyQ w p) : Calls Try.prog 21 #[.pointer p] w fun e w' => e = .returned (.int .i64 0) ∧ Keeps NoBlk w w' := by
  have hm := nqmade_c h
  clear h
  go_enter Try.func21, Try.ntmps21
  go_wp2_with fail
  refine hm.mono ?_
  rintro e w1 ⟨rfl, rfl⟩
  go_wp2_with fail
  go_ret
  exact ⟨rfl, Keeps.refl _ _⟩

theorem nqtwin_c (h : NobodyQ w p) : Calls Try.prog 25 #[.pointer p] w fun e w' => e = .returned (.pointer none) ∧ Keeps NoBlk w w' := by
  have hm := nqmade_c h
  clear h
  go_enter Try.func25, Try.ntmps25
  go_wp2_with fail
  refine hm.mono ?_
  rintro e w1 ⟨rfl, rfl⟩
  go_wp2_with fail
  go_ret
  exact ⟨rfl, Keeps.refl _ _⟩

theorem nqbytes_c (h : NobodyQ w p) : Calls Try.prog 66 #[.pointer p] w fun e w' => e = .returned (.slice none 0 0) ∧ Keeps NoBlk w w' := by
  have hm := nqmade_c h
  clear h
  go_enter Try.func66, Try.ntmps66
  go_wp2_with fail
  refine hm.mono ?_
  rintro e w1 ⟨rfl, rfl⟩
  go_wp2_with fail
  go_ret
  exact ⟨rfl, Keeps.refl _ _⟩

theorem nqsorted_c (h : NobodyQ w p) : Calls Try.prog 116 #[.pointer p] w fun e w' => e = .returned (.slice none 0 0) ∧ Keeps NoBlk w w' := by
  have hm := nqmade_c h
  clear h
  go_enter Try.func116, Try.ntmps116
  go_wp2_with fail
  refine hm.mono ?_
  rintro e w1 ⟨rfl, rfl⟩
  go_wp2_with fail
  go_ret
  exact ⟨rfl, Keeps.refl _ _⟩

set_option maxRecDepth 100000 in
set_option maxHeartbeats 1000000 in
theorem nqtell_c (h : NobodyQ w p) (f : Value) : Calls Try.prog 100 #[.pointer p, f] w fun e w' => e = .returned (.slice none 0 0) ∧ Keeps NoBlk w w' := by
  have hm := nqsorted_c h
  clear h
  go_enter Try.func100, Try.ntmps100
  go_wp2_with fail
  refine hm.mono ?_
  rintro e w1 ⟨rfl, k1⟩
  go_wp2_with fail
  refine wp_loop_rounds 1 ?_
  rw [rounds_succ]
  go_wp2_with fail
  go_ret
  exact ⟨rfl, k1⟩

set_option maxRecDepth 100000 in
set_option maxHeartbeats 1000000 in
theorem nqnext_c (h : NobodyQ w p) : Calls Try.prog 63 #[.pointer p] w fun e w' => e = .returned (.tuple #[.int .i64 0, .bool false]) ∧ Keeps NoBlk w w' := by
  have hm := nqsorted_c h
  clear h
  go_enter Try.func63, Try.ntmps63
  go_wp2_with fail
  refine hm.mono ?_
  rintro e w1 ⟨rfl, k1⟩
  go_wp2_with fail
  refine wp_loop_rounds 1 ?_
  rw [rounds_succ]
  go_wp2_with fail
  go_ret2
  exact ⟨rfl, k1⟩

set_option maxRecDepth 100000 in
set_option maxHeartbeats 1000000 in
theorem nqwaits_c (h : NobodyQ w p) : Calls Try.prog 65 #[.pointer p] w fun e w' => e = .returned (.slice none 0 0) ∧ Keeps NoBlk w w' := by
  have hm := nqlen_c h
  clear h
  go_enter Try.func65, Try.ntmps65
  go_wp2_with fail
  refine hm.mono ?_
  rintro e w1 ⟨rfl, k1⟩
  go_wp2_with fail
  refine wp_loop_rounds 1 ?_
  rw [rounds_succ]
  go_wp2_with fail
  go_ret
  exact ⟨rfl, k1⟩

theorem nqouts_c (h : NobodyQ w p) : Calls Try.prog 39 #[.pointer p] w fun e w' => e = .returned (.slice none 0 0) ∧ Keeps NoBlk w w' := by
  have hm := nqtell_c h (.func (.func 102) #[] #[])
  clear h
  go_enter Try.func39, Try.ntmps39
  go_wp2_with fail
  refine hm.mono ?_
  rintro e w1 ⟨rfl, k1⟩
  go_wp2_with fail
  go_ret
  exact ⟨rfl, k1⟩

theorem nqexpire_c (h : NobodyQ w p) (now : Int) : Calls Try.prog 38 #[.pointer p, .int .i64 now] w fun e w' => e = .returned (.slice none 0 0) ∧ Keeps NoBlk w w' := by
  have hm := fun o f => nqtell_c (h.keep ((Keeps.refl NoBlk w).alloc o)) f
  have hmf := makeFunc_run
  clear h
  go_enter Try.func38, Try.ntmps38
  go_wp2_with fail
  refine (hm _ _).mono ?_
  rintro e w1 ⟨rfl, k1⟩
  go_wp2_with fail
  go_ret
  exact ⟨rfl, ((Keeps.refl _ _).alloc _).trans k1 (fun _ _ x => x)⟩

theorem nqdrop_c (h : NobodyQ w p) (key : ByteArray) : Calls Try.prog 64 #[.pointer p, .string key] w fun e w' => e = .returned (.bool false) ∧ Keeps NoBlk w w' := by
  have hm := fun o => nqmade_c (h.keep ((Keeps.refl NoBlk w).alloc o))
  clear h
  go_enter Try.func64, Try.ntmps64
  go_wp2_with fail
  refine (hm _).mono ?_
  rintro e w1 ⟨rfl, rfl⟩
  go_wp2_with fail
  go_ret
  exact ⟨rfl, (Keeps.refl _ _).alloc _⟩

set_option maxRecDepth 100000 in
set_option maxHeartbeats 1000000 in
theorem nqpoll_c (h : NobodyQ w p) (who : ByteArray) (now lease : Int) : Calls Try.prog 22 #[.pointer p, .string who, .int .i64 now, .int .i64 lease] w fun e w' => e = .returned (.tuple #[.string ⟨#[]⟩, .int .i64 0, .int .i64 0, .int .i64 1]) ∧ Keeps NoBlk w w' := by
  have hm := fun o o' o'' => nqmade_c (h.keep ((((Keeps.refl NoBlk w).alloc o).alloc o').alloc o''))
  clear h
  go_enter Try.func22, Try.ntmps22
  go_wp2_with fail
  refine (hm _ _ _).mono ?_
  rintro e w1 ⟨rfl, rfl⟩
  go_wp2_with fail
  refine bodyPost_ret (v := .tuple #[.string ⟨#[]⟩, .int .i64 0, .int .i64 0, .int .i64 1]) (by simp [results, go_sem]) rfl ?_
  exact ⟨rfl, (((Keeps.refl _ _).alloc _).alloc _).alloc _⟩

set_option maxRecDepth 100000 in
set_option maxHeartbeats 1000000 in
theorem nqfind_c (h : NobodyQ w p) (tok : Int) : Calls Try.prog 85 #[.pointer p, .int .i64 tok] w fun e w' => e = .returned (.tuple #[outV default, .int .i64 1]) ∧ Keeps NoBlk w w' := by
  have hm := fun o => nqmade_c (h.keep ((Keeps.refl NoBlk w).alloc o))
  obtain ⟨B, hB⟩ : ∃ B, w.heap.size = B := ⟨_, rfl⟩
  clear h
  go_enter Try.func85, Try.ntmps85
  go_wp2_with fail
  refine (hm _).mono ?_
  rintro e w1 ⟨rfl, rfl⟩
  go_wp2_with fail
  generalize hW : w.alloc (.cells #[.string ⟨#[]⟩, .string ⟨#[]⟩, .int .i64 0, .int .i64 0, .int .i64 0, .string ⟨#[]⟩, .int .i64 0] 149) = W
  have hk : Keeps NoBlk w W := by subst hW; exact (Keeps.refl _ _).alloc _
  have ho : OutAt W B default := by subst hW hB; exact heap_alloc_new _ _
  obtain ⟨y0, y1, y2, y3, y4, y5, y6⟩ := ho.cells
  refine bodyPost_ret (v := .tuple #[outV default, .int .i64 1]) (by simp [results, go_sem, outV, *]) rfl ?_
  exact ⟨rfl, hk⟩

set_option maxRecDepth 100000 in
set_option maxHeartbeats 1000000 in
theorem nqdone_c (h : NobodyQ w p) (tok : Int) : Calls Try.prog 24 #[.pointer p, .int .i64 tok] w fun e w' => e = .returned (.tuple #[.string ⟨#[]⟩, .int .i64 0, .int .i64 1]) ∧ Keeps NoBlk w w' := by
  have hf := nqfind_c h tok
  clear h
  go_enter Try.func24, Try.ntmps24
  go_wp2_with fail
  refine hf.mono ?_
  rintro e w1 ⟨rfl, k1⟩
  obtain ⟨B, hB⟩ : ∃ B, w1.heap.size = B := ⟨_, rfl⟩
  have hz : outV (default : QOut) = .agg #[.string ⟨#[]⟩, .string ⟨#[]⟩, .int .i64 0, .int .i64 0, .int .i64 0, .string ⟨#[]⟩, .int .i64 0] := rfl
  rw [hz]
  clear hz
  go_wp2_with fail
  refine name_world ?_
  intro w2 hw2
  have k2 : Keeps NoBlk w1 w2 := by subst hw2; exact (Keeps.refl _ _).alloc _
  have ho : OutAt w2 B default := by subst hw2 hB; exact heap_alloc_new _ _
  obtain ⟨y0, _, _, y3, _⟩ := ho.cells
  have y0' : w2.cell? ⟨B, 0, none⟩ = some (.string ⟨#[]⟩) := y0
  have y3' : w2.cell? ⟨B, 3, none⟩ = some (.int .i64 0) := y3
  clear hw2 hB y0 y3
  go_quiet (fail)
  go_wp2_with fail
  go_ret3
  exact ⟨rfl, (k1.trans k2 (fun _ _ x => x)).drewN _⟩

set_option maxRecDepth 100000 in
set_option maxHeartbeats 1000000 in
theorem nqback_c (h : NobodyQ w p) (tok : Int) (r : Int) : Calls Try.prog 23 #[.pointer p, .int .i64 tok, .int .i64 r] w fun e w' => e = .returned (.tuple #[.string ⟨#[]⟩, .int .i64 0, .int .i64 1]) ∧ Keeps NoBlk w w' := by
  have hf := nqfind_c h tok
  clear h
  go_enter Try.func23, Try.ntmps23
  go_wp2_with fail
  refine hf.mono ?_
  rintro e w1 ⟨rfl, k1⟩
  obtain ⟨B, hB⟩ : ∃ B, w1.heap.size = B := ⟨_, rfl⟩
  have hz : outV (default : QOut) = .agg #[.string ⟨#[]⟩, .string ⟨#[]⟩, .int .i64 0, .int .i64 0, .int .i64 0, .string ⟨#[]⟩, .int .i64 0] := rfl
  rw [hz]
  clear hz
  go_wp2_with fail
  refine name_world ?_
  intro w2 hw2
  have k2 : Keeps NoBlk w1 w2 := by subst hw2; exact (Keeps.refl _ _).alloc _
  have ho : OutAt w2 B default := by subst hw2 hB; exact heap_alloc_new _ _
  obtain ⟨y0, _, _, y3, _⟩ := ho.cells
  have y0' : w2.cell? ⟨B, 0, none⟩ = some (.string ⟨#[]⟩) := y0
  have y3' : w2.cell? ⟨B, 3, none⟩ = some (.int .i64 0) := y3
  clear hw2 hB y0 y3
  go_quiet (fail)
  go_wp2_with fail
  go_ret3
  exact ⟨rfl, (k1.trans k2 (fun _ _ x => x)).drewN _⟩
end

end Go.Proofs.Ytofdcmbjcpfabaa
