/- Heap[api.Timer]: what its functions do, as the plain heap does (2). -/
import Derived.Test.YtofdcmbjcpfabaaHeapWT
import Derived.Test.YtofdcmbjcpfabaaHeapInv
namespace Go.Proofs.Ytofdcmbjcpfabaa
open Go.RowKit Go.Maps Go.MapKept Go.ChangeMaps
attribute [local go_sem ↓] Go.wp_at_zero Go.wp_at_succ

/-- A heap in memory, its slice nil or not. -/
structure HMemT (w : World) (p : Nat) (lv : Value) (mb : Nat) (s : HS Tm) (next : Int) : Prop where
  hp : w.heap[p]? = some (.cells #[.bool true, lv, .map (some mb), .int .i64 next] 215 (0, 0))
  hg : RowV w 212 5 encT lv s.a
  hm : ∃ n, MapFn w Try.prog 3 (Value.int .i64) (Value.int .i64) mb n s.m

section
variable {w w' : World} {p mb : Nat} {lv : Value} {s : HS Tm} {next : Int}

theorem HMemT.raw (h : HMemT w p lv mb s next) : (lv = .slice none 0 0 ∧ s.a = []) ∨ ∃ g cap, lv = .slice (some ⟨g, 0, none⟩) s.a.length cap ∧ HRawT w p g mb cap s next := by
  rcases h.hg.form with ⟨e, e2⟩ | ⟨g, cap, e⟩
  · exact .inl ⟨e, e2⟩
  · subst e; exact .inr ⟨g, cap, rfl, ⟨h.hp, h.hg, h.hm⟩⟩

theorem HRawT.mem {g cap : Nat} (h : HRawT w p g mb cap s next) : HMemT w p (.slice (some ⟨g, 0, none⟩) s.a.length cap) mb s next := ⟨h.hp, h.hg, h.hm⟩

theorem HMemT.len (h : HMemT w p lv mb s next) : ∃ a cap, lv = .slice a s.a.length cap := by
  rcases h.raw with ⟨e, e2⟩ | ⟨g, cap, e, _⟩
  · exact ⟨none, 0, by rw [e, e2]; rfl⟩
  · exact ⟨_, _, e⟩

theorem HMemT.fields (h : HMemT w p lv mb s next) : w.cell? ⟨p, 0, none⟩ = some (.bool true) ∧ w.cell? ⟨p, 1, none⟩ = some lv ∧
    w.cell? ⟨p, 2, none⟩ = some (.map (some mb)) ∧ w.cell? ⟨p, 3, none⟩ = some (.int .i64 next) := by
  refine ⟨?_, ?_, ?_, ?_⟩ <;> (rw [cell_of_row _ _ _ _ _ _ h.hp]; rfl)

theorem HMemT.frozen (h : HMemT w p lv mb s next) (j : Nat) : w.frozen? ⟨p, j, none⟩ = false := frozen_of_row _ _ _ _ _ h.hp

theorem HMemT.at_blocks (h : HMemT w p lv mb s next) (h1 : w'.heap[p]? = w.heap[p]?) (h2 : ∀ b, lv.ownBlock = some b → w'.heap[b]? = w.heap[b]?) (h3 : w'.heap[mb]? = w.heap[mb]?) : HMemT w' p lv mb s next :=
  ⟨h1.trans h.hp, h.hg.at_block h2, h.hm.elim fun n hm => ⟨n, hm.at_block h3⟩⟩

theorem HMemT.lt (h : HMemT w p lv mb s next) : p < w.heap.size ∧ (∀ b, lv.ownBlock = some b → b < w.heap.size) ∧ mb < w.heap.size :=
  ⟨block_lt h.hp, fun b hb => (World.ownsRow.lt h.hg b hb).2, h.hm.elim fun _ hm => hm.lt⟩

theorem HMemT.keep (h : HMemT w p lv mb s next) {S : Nat → Prop} (hk : Keeps S w w') (hS : ∀ k, HFoot p lv mb k → ¬ S k) : HMemT w' p lv mb s next :=
  h.at_blocks (hk.block _ h.lt.1 (hS _ (.inl rfl))) (fun b hb => hk.block _ (h.lt.2.1 b hb) (hS _ (.inr (.inr hb)))) (hk.block _ h.lt.2.2 (hS _ (.inr (.inl rfl))))

theorem HMemT.keep0 (h : HMemT w p lv mb s next) (hk : Keeps NoBlk w w') : HMemT w' p lv mb s next := h.keep hk (fun _ _ x => x)
end

theorem lenT_c (w : World) (p mb : Nat) (lv : Value) (s : HS Tm) (next : Int) (h : HMemT w p lv mb s next) :
    Calls Try.prog 143 #[.pointer (some ⟨p, 0, none⟩)] w fun e w' => e = .returned (.int .i64 s.a.length) ∧ w = w' := by
  obtain ⟨_, c1, _, _⟩ := h.fields
  obtain ⟨a, cap, rfl⟩ := h.len
  go_enter Try.func143, Try.ntmps143
  go_wp2
  go_ret
  exact ⟨rfl, rfl⟩

theorem findT_c (w : World) (p mb : Nat) (lv : Value) (s : HS Tm) (next : Int) (h : HMemT w p lv mb s next) (n : Int) (hn : (Lit.int .i64 n).wf = true) :
    Calls Try.prog 144 #[.pointer (some ⟨p, 0, none⟩), .int .i64 n] w fun e w' => e = .returned (.tuple #[.int .i64 ((s.m n).getD 0), .bool (s.m n).isSome]) ∧ w = w' := by
  obtain ⟨_, _, c2, _⟩ := h.fields
  obtain ⟨k, hm⟩ := h.hm
  have hl := hm.look true keyI Try.underlying100 (zeroInt _ : (zeroValue 3).run Try.prog w = .ok (.int .i64 0) w) intInj (keyOf_int_mk Try.underlying3 hn)
  rw [if_pos rfl] at hl
  go_enter Try.func144, Try.ntmps144
  go_wp2
  go_ret2
  refine ⟨?_, rfl⟩
  cases s.m n <;> rfl

set_option maxHeartbeats 1000000 in
theorem newT_c (w : World) :
    Calls Try.prog 129 #[] w fun e w' => ∃ p mb, e = .returned (.pointer (some ⟨p, 0, none⟩)) ∧ HMemT w' p (.slice none 0 0) mb ⟨[], fun _ => none⟩ 0 ∧ Keeps NoBlk w w' ∧ w.heap.size ≤ p ∧ w.heap.size ≤ mb := by
  have hmm := @run_makeMap Try.prog
  go_enter Try.func129, Try.ntmps129
  go_wp2
  go_ret
  refine ⟨w.heap.size + 1, w.heap.size, rfl, ⟨?_, RowV.nil _ _ _ _, 0, ?_⟩, ((Keeps.refl _ _).alloc _).alloc _, by omega, by omega⟩
  · rw [heap_alloc2_new]
  · exact MapFn_of_new (by rw [Below.heap_alloc _ _ _ (by simp)]; exact (heap_alloc _ _).1)

theorem infoThingT : (Try.prog.info? 212).map (fun i => (i.zero, i.size, i.bytes)) = some (some (.agg #[.int .i64 0, .int .i64 0, .int .i64 0, .string ⟨#[]⟩, .int .i64 0]), 5, 48) := by kernel_rfl

theorem HRawT.shrink {w : World} {p g mb cap : Nat} {s : HS Tm} {next : Int} (h : HRawT w p g mb cap s next) {n : Nat} (hn : n ≤ s.a.length) :
    HRawT (w.setCell ⟨p, 1, none⟩ (.slice (some ⟨g, 0, none⟩) n cap)) p g mb cap ⟨s.a.take n, s.m⟩ next := by
  have hl : (s.a.take n).length = n := by simp; omega
  refine ⟨?_, ?_, ?_⟩
  · rw [heap_setCell_same _ _ _ _ _ _ h.hp, hl]; simp
  · exact (h.hg.take encT_len hn).at_block (Below.heap_setCell _ _ _ _ (Ne.symm h.ne.1))
  · exact h.hm.elim fun n hm => ⟨n, hm.at_block (Below.heap_setCell _ _ _ _ (Ne.symm h.ne.2.1))⟩

set_option maxHeartbeats 4000000 in
set_option maxRecDepth 100000 in
/-- The heap keeps its row (its block g, its capacity). -/
theorem dropT_c (w : World) (p g mb cap : Nat) (s : HS Tm) (next : Int) (h : HRawT w p g mb cap s next) (i : Nat) (hi : i < s.a.length) (hbig : s.a.length ≤ 1000000000000) (hx : ∀ j, (Lit.int .i64 (s.get j).num).wf = true)
    (hxm : i ≠ s.a.length - 1 → ∀ j, (Lit.int .i64 ((s.moved i).get j).num).wf = true) (hw : i ≠ s.a.length - 1 → s.where_ i < s.a.length - 1 ∧ (s.moved i).m (s.get (s.a.length - 1)).num = some (s.where_ i : Int)) :
    Calls Try.prog 142 #[.pointer (some ⟨p, 0, none⟩), .int .i64 i] w fun e w' =>
      e = .returned (.tuple #[]) ∧ HRawT w' p g mb cap (s.drop i) next ∧ Keeps (fun k => k = p ∨ k = g ∨ k = mb) w w' := by
  obtain ⟨g0, g1, g2, g3, g4⟩ := h.cell hi
  obtain ⟨_, c1, c2, _⟩ := h.fields
  obtain ⟨la, hla0⟩ : ∃ la, s.a.length - 1 = la := ⟨_, rfl⟩
  rw [hla0] at hw
  have hlal : la < s.a.length := by omega
  obtain ⟨l0, l1, l2, l3, l4⟩ := h.cell hlal
  have ela : (s.a.length : Int) - 1 = (la : Int) := by omega
  have hla : Hid (s.a.length - 1 = la) := hla0
  clear hla0
  have hi0 : (0 : Int) ≤ i := by omega
  have hi1 : (i : Int) < s.a.length := by omega
  have hl0 : (0 : Int) ≤ la := by omega
  have hl1 : (la : Int) < s.a.length := by omega
  obtain ⟨B, hB⟩ : ∃ B, w.heap.size = B := ⟨_, rfl⟩
  go_enter Try.func142, Try.ntmps142
  go_wp2_with fail
  refine name_world ?_
  intro w1 hw1
  have k1 : Keeps NoBlk w w1 := by subst hw1; exact (Keeps.refl _ _).alloc _
  have h1 : HRawT w1 p g mb cap s next := h.keep k1 id id id
  have b1 : w1.cell? ⟨B, 1, none⟩ = some (.int .i64 (s.get i).num) := by subst hw1 hB; simp
  have hBs : w1.heap.size = B + 1 := by subst hw1 hB; simp
  have hmB : ¬ mb = B := by have := h.lt.2.2; omega
  have hmp : ¬ mb = p := fun e => h.ne.2.1 e.symm
  have hmg : ¬ mb = g := fun e => h.ne.2.2 e.symm
  have hgp : ¬ g = p := fun e => h.ne.1 e.symm
  obtain ⟨_, d1, d2, _⟩ := h1.fields
  obtain ⟨nn, hm⟩ := h1.hm
  obtain ⟨o, ho⟩ := hm.drop keyI Try.underlying100 intInj (keyOf_int_mk Try.underlying3 (hx i)) 0
  obtain ⟨hrun, hmap⟩ := ho w1.drew rfl
  clear hw1 ho hm c1 c2 g0 g1 g2 g3 g4 l0 l1 l2 l3 l4
  go_region_held3 (fun w' => w'.cell? ⟨p, 2, none⟩ = some (.map (some mb)) ∧ w'.cell? ⟨B, 1, none⟩ = some (.int .i64 (s.get i).num)) (first | (simp [*]; done) | (simp [cell?_setBlock_other, *]; done)) (fail)
  go_step
  go_step
  refine name_world ?_
  intro w2 hw2
  have k2 : Keeps (fun k => k = mb) w1 w2 := by subst hw2; exact ((Keeps.refl (fun k => k = mb) w1).drew).setBlock (fun _ => rfl) _
  have h2 : HRawT w2 p g mb cap ⟨s.a, fdel s.m (s.get i).num⟩ next := by
    subst hw2
    refine ⟨by rw [heap_setBlock_ne _ _ _ _ h1.ne.2.1]; exact h1.hp, h1.hg.at_block (heap_setBlock_ne _ _ _ _ h1.ne.2.2), _, hmap⟩
  obtain ⟨C, hC⟩ : ∃ C, w2.heap.size = C := ⟨_, rfl⟩
  have hgC : ¬ g = C := by have := h2.lt.2.1; omega
  have hpC : ¬ p = C := by have := h2.lt.1; omega
  have hmC : ¬ mb = C := by have := h2.lt.2.2; omega
  have hCg : g < C := by have := h2.lt.2.1; omega
  have hCp : p < C := by have := h2.lt.1; omega
  clear hw2 hrun hmap b1 d1 d2 hBs hmB
  obtain ⟨_, d1, d2, _⟩ := h2.fields
  have e1 : HS.get ⟨s.a, fdel s.m (s.get i).num⟩ la = s.get la := rfl
  obtain ⟨l0, l1, l2, l3, l4⟩ := h2.cell hlal
  rw [e1] at l0 l1 l2 l3 l4
  clear e1
  have f0 := h2.hg.frozen (la * 5)
  have f1 := h2.hg.frozen (la * 5 + 1)
  have f2 := h2.hg.frozen (la * 5 + 2)
  have f3 := h2.hg.frozen (la * 5 + 3)
  have f4 := h2.hg.frozen (la * 5 + 4)
  have fp : w2.frozen? ⟨p, 1, none⟩ = false := frozen_of_row _ _ _ _ _ h2.hp
  have hll : la ≤ cap := by have := h2.hg.block.choose_spec.2.1; show la ≤ cap; have e : s.a.length ≤ cap := this; omega
  have hll' : (la : Int) ≤ (cap : Int) := by omega
  have h4 : HRawT ((w2.setCells g (la * 5) (encT default)).setCell ⟨p, 1, none⟩ (.slice (some ⟨g, 0, none⟩) la cap)) p g mb cap (s.cut i) next := by
    have h3 := (h2.set hlal default).shrink (n := la) (by simp; omega)
    rw [List.take_set, List.set_eq_of_length_le (by simp; omega)] at h3
    unfold HS.cut
    rw [hla.out]
    exact h3
  have k4 : Keeps (fun k => k = p ∨ k = g) w2 ((w2.setCells g (la * 5) (encT default)).setCell ⟨p, 1, none⟩ (.slice (some ⟨g, 0, none⟩) la cap)) :=
    ((Keeps.refl _ _).setCells (fun _ => .inr rfl) _ _).setCell (p := ⟨p, 1, none⟩) (fun _ => .inl rfl) _
  have kk : Keeps (fun k => k = p ∨ k = g ∨ k = mb) w w2 := (k1.of_none).trans k2 (fun _ _ e => .inr (.inr e))
  have hcl : (s.cut i).a.length = la := by rw [HS.length_cut, hla.out]
  by_cases hil : i = la
  · subst hil
    have ht : ((i : Int) == (i : Int)) = true := by simp
    go_wp2_with fail
    refine bodyPost_ret (results_none rfl _ _ _) rfl ?_
    refine ⟨rfl, ?_, ?_⟩
    · rw [HS.drop, if_pos hla.out.symm]
      exact h4.keep ((Keeps.refl NoBlk _).alloc _) id id id
    · exact kk.trans (k4.alloc _) (fun _ _ e => e.elim .inl (fun e => .inr (.inl e)))
  · have ht : ((i : Int) == (la : Int)) = false := by simp; omega
    have hiln : i < la := by omega
    obtain ⟨hwl, hwm⟩ := hw hil
    have hxm' := hxm (by rw [hla.out]; exact hil)
    clear hxm
    clear hil hw
    go_wp2_with fail
    refine (layT_c _ p g mb cap (s.cut i) next (h4.keep ((Keeps.refl NoBlk _).alloc _) id id id) i (by rw [hcl]; exact hiln) (s.get la) (hx la)).mono ?_
    rintro e w5 ⟨rfl, h5, hk5⟩
    have ks5 : Keeps (fun k => k = p ∨ k = g ∨ k = mb) w2 w5 := ((k4.alloc _).mono (fun _ _ e => e.elim .inl (fun e => .inr (.inl e)))).trans hk5 (fun _ _ e => e.elim (fun e => .inr (.inl e)) (fun e => .inr (.inr e)))
    have y1 : w5.cell? ⟨C, 1, none⟩ = some (.int .i64 (s.get la).num) := by
      rw [hk5.cell (p := ⟨C, 1, none⟩) (by simp [hC]) (fun e => e.elim (fun e => hgC e.symm) (fun e => hmC e.symm))]
      subst hC; simp [go_sem]
    have hC5 : C < w5.heap.size := by have := hk5.size; simp at this; omega
    go_wp2_with fail
    refine (sinkT_c _ p g mb cap _ next h5 i (by rw [HS.length_lay, hcl]; exact hiln) (by rw [HS.length_lay, hcl]; omega) ?wf).mono ?_
    case wf =>
      refine fun j => HS.wf_lay (fun j => ?_) (hx la) i j
      by_cases hj : j < s.a.length - 1
      · rw [HS.get_cut _ _ _ hj]; exact hx j
      · rw [HS.get_of_ge _ _ (by rw [HS.length_cut]; omega)]; exact WalkArith.wf_i64 (by show (-9223372036854775808 : Int) ≤ 0 ∧ (0 : Int) ≤ 9223372036854775807; omega)
    rintro e w6 ⟨rfl, h6, hk6⟩
    have hgl : HS.get (HS.lay (s.cut i) i (s.get la)) i = s.get la := by rw [HS.get_lay, if_pos ⟨rfl, by rw [hcl]; exact hiln⟩]
    have hmv : (HS.lay (s.cut i) i (s.get la)).sink i (s.get la) = s.moved i := by unfold HS.moved; rw [hla.out]
    rw [hgl, hmv] at h6
    have ks6 : Keeps (fun k => k = p ∨ k = g ∨ k = mb) w2 w6 := ks5.trans hk6 (fun _ _ e => e.elim (fun e => .inr (.inl e)) (fun e => .inr (.inr e)))
    have z1 : w6.cell? ⟨C, 1, none⟩ = some (.int .i64 (s.get la).num) := (hk6.cell (p := ⟨C, 1, none⟩) hC5 (fun e => e.elim (fun e => hgC e.symm) (fun e => hmC e.symm))).trans y1
    have hC6 : C < w6.heap.size := Nat.lt_of_lt_of_le hC5 hk6.size
    obtain ⟨_, _, x2, _⟩ := h6.fields
    obtain ⟨n6, hm6⟩ := h6.hm
    have hl6 := hm6.look false keyI Try.underlying100 (zeroInt _ : (zeroValue 3).run Try.prog w6 = .ok (.int .i64 0) w6) intInj (keyOf_int_mk Try.underlying3 (hx la))
    rw [if_neg (by simp), hwm] at hl6
    simp only [Option.map_some, Option.getD_some] at hl6
    have hl6' : ∀ n, (Instr.lookup 100 (.map (some mb)) (.int .i64 (s.get la).num) false).run Try.prog (w6.drewN n) = .ok (.int .i64 (s.where_ i)) (w6.drewN n) := fun n => by
      have hl7 := (hm6.at_block (w' := w6.drewN n) rfl).look false keyI Try.underlying100 (zeroInt _ : (zeroValue 3).run Try.prog (w6.drewN n) = .ok (.int .i64 0) (w6.drewN n)) intInj (keyOf_int_mk Try.underlying3 (hx la))
      rw [if_neg (by simp), hwm] at hl7
      exact hl7
    have hl8 : (Instr.lookup 100 (.map (some mb)) (.int .i64 (s.get la).num) false).run Try.prog w6.drew = .ok (.int .i64 (s.where_ i)) w6.drew := hl6' 1
    clear hl6'
    have hmv' : (s.moved i).a.length = la := by rw [HS.length_moved, hla.out]
    clear y1 hl6 hm6 hwm
    go_wp2_with fail
    go_still_tail 8, (by kernel_rfl)
    go_wp2_with fail
    refine (riseT_c _ p g mb cap (s.moved i) next (h6.keep ((Keeps.refl NoBlk w6).drew) id id id) (s.where_ i) (by rw [hmv']; exact hwl) hxm').mono ?_
    rintro e w7 ⟨rfl, h7, hk7⟩
    go_wp2_with fail
    go_end0
    refine ⟨rfl, ?_, ?_⟩
    · rw [HS.drop, if_neg (by rw [hla.out]; omega)]
      exact h7
    · exact kk.trans ((ks6.trans (Keeps.refl NoBlk w6).drew (fun _ _ x => x.elim)).trans hk7 (fun _ _ e => e.elim (fun e => .inr (.inl e)) (fun e => .inr (.inr e)))) (fun _ _ x => x)

end Go.Proofs.Ytofdcmbjcpfabaa
