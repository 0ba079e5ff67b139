/- Heap[api.Timer]: what its functions do, as the plain heap does. -/
import Derived.Test.YtofdcmbjcpfabaaCmp
import Derived.Deep.RegionHeld3
import Derived.Deep.DrawnRows
import Derived.Deep.DeepFit
import Derived.BigQuiet
import Derived.StillTailTactics
namespace Go.Proofs.Ytofdcmbjcpfabaa
open Go.RowKit Go.Maps Go.MapKept Go.ChangeMaps
attribute [local go_sem ↓] Go.wp_at_zero Go.wp_at_succ

def encT (x : Thing Tm) : List Value := [.int .i64 x.key, .int .i64 x.num, .int .i64 x.v.due, .string x.v.owner, .int .i64 x.v.id]
theorem encT_len (x : Thing Tm) : (encT x).length = 5 := rfl

/-- A heap in memory: its struct at p, its row at g, its map at mb. -/
structure HRawT (w : World) (p g mb cap : Nat) (s : HS Tm) (next : Int) : Prop where
  hp : w.heap[p]? = some (.cells #[.bool true, .slice (some ⟨g, 0, none⟩) s.a.length cap, .map (some mb), .int .i64 next] 215 (0, 0))
  hg : RowAt w 212 5 encT g cap s.a
  hm : ∃ n, MapFn w Try.prog 3 (Value.int .i64) (Value.int .i64) mb n s.m

section
variable {w w' : World} {p g mb cap : Nat} {s : HS Tm} {next : Int}

theorem HRawT.cell (h : HRawT w p g mb cap s next) {i : Nat} (hi : i < s.a.length) :
    w.cell? ⟨g, i * 5, none⟩ = some (.int .i64 (s.get i).key) ∧ w.cell? ⟨g, i * 5 + 1, none⟩ = some (.int .i64 (s.get i).num) ∧ w.cell? ⟨g, i * 5 + 2, none⟩ = some (.int .i64 (s.get i).v.due) ∧ w.cell? ⟨g, i * 5 + 3, none⟩ = some (.string (s.get i).v.owner) ∧ w.cell? ⟨g, i * 5 + 4, none⟩ = some (.int .i64 (s.get i).v.id) := by
  have e : s.get i = s.a[i] := by simp [HS.get, List.getD, hi]
  rw [e]
  exact ⟨h.hg.cell encT_len hi (j := 0) (by omega), h.hg.cell encT_len hi (j := 1) (by omega), h.hg.cell encT_len hi (j := 2) (by omega), h.hg.cell encT_len hi (j := 3) (by omega), h.hg.cell encT_len hi (j := 4) (by omega)⟩

theorem HRawT.at_blocks (h : HRawT w p g mb cap s next) (h1 : w'.heap[p]? = w.heap[p]?) (h2 : w'.heap[g]? = w.heap[g]?) (h3 : w'.heap[mb]? = w.heap[mb]?) : HRawT w' p g mb cap s next :=
  ⟨h1.trans h.hp, h.hg.at_block h2, h.hm.elim fun n hm => ⟨n, hm.at_block h3⟩⟩

theorem HRawT.lt (h : HRawT w p g mb cap s next) : p < w.heap.size ∧ g < w.heap.size ∧ mb < w.heap.size := ⟨block_lt h.hp, h.hg.lt, h.hm.elim fun _ hm => hm.lt⟩

theorem HRawT.ne (h : HRawT w p g mb cap s next) : p ≠ g ∧ p ≠ mb ∧ g ≠ mb := by
  obtain ⟨cur, hg, _⟩ := h.hg.block
  obtain ⟨n, es, clock, hm, _⟩ := h.hm
  have hp := h.hp
  refine ⟨fun e => ?_, fun e => ?_, fun e => ?_⟩
  · subst e; rw [hp] at hg; cases hg
  · subst e; rw [hp] at hm; cases hm
  · subst e; rw [hg] at hm; cases hm

theorem HRawT.keep (h : HRawT w p g mb cap s next) {S : Nat → Prop} (hk : Keeps S w w') (h1 : ¬ S p) (h2 : ¬ S g) (h3 : ¬ S mb) : HRawT w' p g mb cap s next :=
  h.at_blocks (hk.block _ h.lt.1 h1) (hk.block _ h.lt.2.1 h2) (hk.block _ h.lt.2.2 h3)

theorem HRawT.fields (h : HRawT w p g mb cap s next) : w.cell? ⟨p, 0, none⟩ = some (.bool true) ∧ w.cell? ⟨p, 1, none⟩ = some (.slice (some ⟨g, 0, none⟩) s.a.length cap) ∧
    w.cell? ⟨p, 2, none⟩ = some (.map (some mb)) ∧ w.cell? ⟨p, 3, none⟩ = some (.int .i64 next) := by
  refine ⟨?_, ?_, ?_, ?_⟩ <;> (rw [cell_of_row _ _ _ _ _ _ h.hp]; rfl)

theorem HRawT.set (h : HRawT w p g mb cap s next) {i : Nat} (hi : i < s.a.length) (x : Thing Tm) : HRawT (w.setCells g (i * 5) (encT x)) p g mb cap ⟨s.a.set i x, s.m⟩ next :=
  ⟨by rw [heap_setCells _ _ _ _ _ h.ne.1, List.length_set]; exact h.hp, h.hg.set encT_len hi x, h.hm.elim fun n hm => ⟨n, hm.at_block (heap_setCells _ _ _ _ _ (Ne.symm h.ne.2.2))⟩⟩
end

set_option maxHeartbeats 1000000 in
theorem layT_c (w : World) (p g mb cap : Nat) (s : HS Tm) (next : Int) (h : HRawT w p g mb cap s next) (i : Nat) (hi : i < s.a.length) (x : Thing Tm) (hx : (Lit.int .i64 x.num).wf = true) :
    Calls Try.prog 172 #[.pointer (some ⟨p, 0, none⟩), .int .i64 i, .agg #[.int .i64 x.key, .int .i64 x.num, .int .i64 x.v.due, .string x.v.owner, .int .i64 x.v.id]] w fun e w' =>
      e = .returned (.tuple #[]) ∧ HRawT w' p g mb cap (s.lay i x) next ∧ Keeps (fun k => k = g ∨ k = mb) w w' := by
  go_enter Try.func172, Try.ntmps172
  go_wp2_with fail
  refine name_world ?_
  intro w1 hw1
  obtain ⟨B, hB⟩ : ∃ B, w.heap.size = B := ⟨_, rfl⟩
  rw [hB]
  have k1 : Keeps NoBlk w w1 := by subst hw1; exact (Keeps.refl _ _).alloc _
  have h1 : HRawT w1 p g mb cap s next := h.keep k1 id id id
  have b0 : w1.cell? ⟨B, 0, none⟩ = some (.int .i64 x.key) := by subst hw1 hB; simp
  have b1 : w1.cell? ⟨B, 1, none⟩ = some (.int .i64 x.num) := by subst hw1 hB; simp
  have b2 : w1.cell? ⟨B, 2, none⟩ = some (.int .i64 x.v.due) := by subst hw1 hB; simp
  have b3 : w1.cell? ⟨B, 3, none⟩ = some (.string x.v.owner) := by subst hw1 hB; simp
  have b4 : w1.cell? ⟨B, 4, none⟩ = some (.int .i64 x.v.id) := by subst hw1 hB; simp
  obtain ⟨g0, g1, g2, g3, g4⟩ := h1.cell hi
  obtain ⟨_, c1, _, _⟩ := h1.fields
  have f0 := h1.hg.frozen (i * 5)
  have f1 := h1.hg.frozen (i * 5 + 1)
  have f2 := h1.hg.frozen (i * 5 + 2)
  have f3 := h1.hg.frozen (i * 5 + 3)
  have f4 := h1.hg.frozen (i * 5 + 4)
  have hi0 : (0 : Int) ≤ i := by omega
  have hi1 : (i : Int) < s.a.length := by omega
  have hgp : ¬ g = p := fun e => h.ne.1 e.symm
  have hgB : ¬ g = B := by have := h.lt.2.1; omega
  have hmB : ¬ mb = B := by have := h.lt.2.2; omega
  clear hw1 hB
  go_region_held3 (fun w' => w'.cell? ⟨p, 1, none⟩ = some (.slice (some ⟨g, 0, none⟩) s.a.length cap) ∧ w'.cell? ⟨B, 0, none⟩ = some (.int .i64 x.key) ∧ w'.cell? ⟨B, 1, none⟩ = some (.int .i64 x.num) ∧ w'.cell? ⟨B, 2, none⟩ = some (.int .i64 x.v.due) ∧ w'.cell? ⟨B, 3, none⟩ = some (.string x.v.owner) ∧ w'.cell? ⟨B, 4, none⟩ = some (.int .i64 x.v.id)) (simp [World.cell?_setCell_other, *]) (fail)
  go_wp2_with fail
  refine name_world ?_
  intro w2 hw2
  have hw2' : w2 = (w1.setCells g (i * 5) (encT x)).drew := hw2
  have h2 : HRawT w2 p g mb cap ⟨s.a.set i x, s.m⟩ next := by rw [hw2']; exact (h1.set hi x).at_blocks rfl rfl rfl
  have b1' : w2.cell? ⟨B, 1, none⟩ = some (.int .i64 x.num) := by subst hw2; simp [World.cell?_setCell_other, b1]
  have k2 : Keeps (fun k => k = g) w1 w2 := by rw [hw2']; exact ((Keeps.refl (fun k => k = g) w1).setCells (fun _ => rfl) _ _).drew
  obtain ⟨_, _, c2, _⟩ := h2.fields
  obtain ⟨n, hm⟩ := h2.hm
  obtain ⟨o, ho⟩ := hm.store keyI Try.underlying100 intInj (keyOf_int_mk Try.underlying3 hx) (i : Int)
  obtain ⟨hrun, hmap⟩ := ho w2.drew rfl
  have hmp : ¬ mb = p := fun e => h2.ne.2.1 e.symm
  have hmg : ¬ mb = g := fun e => h2.ne.2.2 e.symm
  clear hw2 hw2' ho hm b0 b1 b2 b3 b4 g0 g1 g2 g3 g4 c1 f0 f1 f2 f3 f4
  go_region_held3 (fun w' => w'.cell? ⟨p, 2, none⟩ = some (.map (some mb)) ∧ w'.cell? ⟨B, 1, none⟩ = some (.int .i64 x.num)) (first | (simp [*]; done) | (simp [cell?_setBlock_other, *]; done)) (fail)
  go_wp2_with fail
  go_end0
  have k3 : Keeps (fun k => k = mb) w2 (setBlock w2.drew mb o) := ((Keeps.refl (fun k => k = mb) w2).drew).setBlock (fun _ => rfl) _
  refine ⟨rfl, ⟨?_, ?_, _, hmap⟩, ?_⟩
  · rw [HS.length_lay]
    rw [heap_setBlock_ne _ _ _ _ (fun e => hmp e.symm)]
    have := h2.hp
    rw [List.length_set] at this
    exact this
  · exact h2.hg.at_block (heap_setBlock_ne _ _ _ _ (fun e => hmg e.symm))
  · exact ((k1.mono (fun _ _ x => x.elim)).trans k2 (fun _ _ e => .inl e)).trans k3 (fun _ _ e => .inr e)

set_option maxHeartbeats 1000000 in
theorem aheadT_c (x y : Thing Tm) (w : World) :
    Calls Try.prog 177 #[.agg #[.int .i64 x.key, .int .i64 x.num, .int .i64 x.v.due, .string x.v.owner, .int .i64 x.v.id], .agg #[.int .i64 y.key, .int .i64 y.num, .int .i64 y.v.due, .string y.v.owner, .int .i64 y.v.id]] w fun e w' =>
      e = .returned (.int .i64 (aheadI x.key x.num y.key y.num)) ∧ Gr w w' := by
  unfold aheadI
  go_enter Try.func177, Try.ntmps177
  go_wp2_with fail
  go_region_held3 (fun w' => w'.cell? ⟨w.heap.size, 0, none⟩ = some (.int .i64 x.key) ∧ w'.cell? ⟨w.heap.size, 1, none⟩ = some (.int .i64 x.num) ∧ w'.cell? ⟨w.heap.size + 1, 0, none⟩ = some (.int .i64 y.key) ∧ w'.cell? ⟨w.heap.size + 1, 1, none⟩ = some (.int .i64 y.num)) (go_keep)
    (first | (go_at_call 170; refine (compare64_c _ _ _).mono ?_; rintro e w' ⟨rfl, rfl⟩) | (go_at_call 171; refine (compare_c _ _ _).mono ?_; rintro e w' ⟨rfl, rfl⟩) | (go_at_call 169; refine (or_c _ (cmpI x.key y.key) (cmpI x.num y.num) _ (by simp [go_sem]) (by simp [go_sem])).mono ?_; rintro e w' ⟨rfl, rfl⟩))
  all_goals go_wp2_with fail
  all_goals go_ret
  all_goals exact ⟨rfl, ((((Gr.refl _).alloc _).alloc _).alloc _).drew⟩

set_option maxHeartbeats 2000000 in
theorem riseT_c (w : World) (p g mb cap : Nat) (s : HS Tm) (next : Int) (h : HRawT w p g mb cap s next) (i : Nat) (hi : i < s.a.length) (hx : ∀ j, (Lit.int .i64 (s.get j).num).wf = true) :
    Calls Try.prog 148 #[.pointer (some ⟨p, 0, none⟩), .int .i64 i] w fun e w' =>
      e = .returned (.tuple #[]) ∧ HRawT w' p g mb cap (s.rise i (s.get i)) next ∧ Keeps (fun k => k = g ∨ k = mb) w w' := by
  obtain ⟨g0, g1, g2, g3, g4⟩ := h.cell hi
  obtain ⟨_, c1, _, _⟩ := h.fields
  have hi0 : (0 : Int) ≤ i := by omega
  have hi1 : (i : Int) < s.a.length := by omega
  go_enter Try.func148, Try.ntmps148
  go_wp2_with fail
  refine name_world ?_
  intro w1 hw1
  obtain ⟨B, hB⟩ : ∃ B, w.heap.size = B := ⟨_, rfl⟩
  rw [hB]
  obtain ⟨x, hxx⟩ : ∃ x, s.get i = x := ⟨_, rfl⟩
  rw [hxx] at hw1 g0 g1 g2 g3 g4 ⊢
  have hwx : (Lit.int .i64 x.num).wf = true := by rw [← hxx]; exact hx i
  have HX : Hid (s.get i = x) := hxx
  clear hxx
  have k1 : Keeps NoBlk w w1 := by subst hw1; exact (Keeps.refl _ _).alloc _
  have h1 : HRawT w1 p g mb cap s next := h.keep k1 id id id
  have b0 : w1.cell? ⟨B, 0, none⟩ = some (.int .i64 x.key) := by subst hw1 hB; simp
  have b1 : w1.cell? ⟨B, 1, none⟩ = some (.int .i64 x.num) := by subst hw1 hB; simp
  have b2 : w1.cell? ⟨B, 2, none⟩ = some (.int .i64 x.v.due) := by subst hw1 hB; simp
  have b3 : w1.cell? ⟨B, 3, none⟩ = some (.string x.v.owner) := by subst hw1 hB; simp
  have b4 : w1.cell? ⟨B, 4, none⟩ = some (.int .i64 x.v.id) := by subst hw1 hB; simp
  have hBs : B < w1.heap.size := by subst hw1 hB; simp
  have hgB : ¬ B = g := by have := h.lt.2.1; omega
  have hmB : ¬ B = mb := by have := h.lt.2.2; omega
  clear hw1 hB g0 g1 g2 g3 g4 c1 hi0 hi1
  go_loopw [1] (fun iv wr => ∃ (k : Nat) (s' : HS Tm), iv = .int .i64 k ∧ HRawT wr p g mb cap s' next ∧ Hid (s'.rise k x = s.rise i x) ∧ k < s'.a.length ∧ (∀ j, (Lit.int .i64 (s'.get j).num).wf = true) ∧ Keeps (fun k => k = g ∨ k = mb) w1 wr) (fun iv _ => (intOf iv).toNat)
  case atStart => exact ⟨i, s, rfl, h1, rfl, hi, hx, Keeps.refl _ _⟩
  case round =>
    obtain ⟨k, s', rfl, hs', hr, hk, hw', hkp⟩ := hrel
    have b0' := (hkp.cell (p := ⟨B, 0, none⟩) hBs (by simp [*])).trans b0
    have b1' := (hkp.cell (p := ⟨B, 1, none⟩) hBs (by simp [*])).trans b1
    have b2' := (hkp.cell (p := ⟨B, 2, none⟩) hBs (by simp [*])).trans b2
    have b3' := (hkp.cell (p := ⟨B, 3, none⟩) hBs (by simp [*])).trans b3
    have b4' := (hkp.cell (p := ⟨B, 4, none⟩) hBs (by simp [*])).trans b4
    obtain ⟨_, c1, _, _⟩ := hs'.fields
    have hBr : B < wr.heap.size := Nat.lt_of_lt_of_le hBs hkp.size
    go_wp2_with fail
    by_cases hk0 : 0 < k
    · obtain ⟨q, hq0⟩ : ∃ q, (k - 1) / 2 = q := ⟨_, rfl⟩
      have hq : Hid ((k - 1) / 2 = q) := hq0
      have hql : q < s'.a.length := by omega
      obtain ⟨g0, g1, g2, g3, g4⟩ := hs'.cell hql
      have q1 : (0 : Int) < (k : Int) := by omega
      have q2 : ((k : Int) - 1) / 2 = (q : Int) := by omega
      have q3 : (0 : Int) ≤ q := by omega
      have hcap := hs'.hg.block.choose_spec.2
      have hkm : (k : Int) ≤ 9223372036854775807 := by have := hcap.1; have := hcap.2.1; unfold maxLen at this; omega
      have q5 : IntKind.i64.wrap ((k : Int) - 1) = (k : Int) - 1 := IntWalk.i64_in _ (by omega)
      have q6 : ((k : Int) - 1).tdiv 2 = (q : Int) := by rw [Int.tdiv_eq_ediv_of_nonneg (by omega)]; exact q2
      have q7 : IntKind.i64.wrap (q : Int) = (q : Int) := IntWalk.i64_in _ (by omega)
      clear hcap hkm hq0
      have q4 : (q : Int) < s'.a.length := by omega
      go_region_held3 (fun w' => w'.cell? ⟨p, 1, none⟩ = some (.slice (some ⟨g, 0, none⟩) s'.a.length cap) ∧ w'.cell? ⟨B, 0, none⟩ = some (.int .i64 x.key) ∧ w'.cell? ⟨B, 1, none⟩ = some (.int .i64 x.num) ∧ w'.cell? ⟨B, 2, none⟩ = some (.int .i64 x.v.due) ∧ w'.cell? ⟨B, 3, none⟩ = some (.string x.v.owner) ∧ w'.cell? ⟨B, 4, none⟩ = some (.int .i64 x.v.id) ∧ w'.cell? ⟨g, q * 5, none⟩ = some (.int .i64 (s'.get q).key) ∧ w'.cell? ⟨g, q * 5 + 1, none⟩ = some (.int .i64 (s'.get q).num) ∧ w'.cell? ⟨g, q * 5 + 2, none⟩ = some (.int .i64 (s'.get q).v.due) ∧ w'.cell? ⟨g, q * 5 + 3, none⟩ = some (.string (s'.get q).v.owner) ∧ w'.cell? ⟨g, q * 5 + 4, none⟩ = some (.int .i64 (s'.get q).v.id)) (first | (simp [*]; done) | exact ⟨(hg2.keeps.cell hs'.lt.1 id).trans c1, (hg2.keeps.cell hBr id).trans b0', (hg2.keeps.cell hBr id).trans b1', (hg2.keeps.cell hBr id).trans b2', (hg2.keeps.cell hBr id).trans b3', (hg2.keeps.cell hBr id).trans b4', (hg2.keeps.cell hs'.lt.2.1 id).trans g0, (hg2.keeps.cell hs'.lt.2.1 id).trans g1, (hg2.keeps.cell hs'.lt.2.1 id).trans g2, (hg2.keeps.cell hs'.lt.2.1 id).trans g3, (hg2.keeps.cell hs'.lt.2.1 id).trans g4⟩) ((go_at_call 177; refine (aheadT_c x (s'.get q) _).mono ?_; rintro e w2 ⟨rfl, hg2⟩))
      have k2 : Keeps NoBlk wr w2 := ((Keeps.refl _ wr).drew).trans hg2.keeps (fun _ _ x => x)
      have hs2 : HRawT w2 p g mb cap s' next := hs'.keep k2 id id id
      go_wp2_with fail
      · have hlt : aheadI x.key x.num (s'.get q).key (s'.get q).num < 0 := by assumption
        refine (layT_c w2 p g mb cap s' next hs2 k hk (s'.get q) (hw' q)).mono ?_
        rintro e w3 ⟨rfl, h3, hk3⟩
        go_wp2_with fail
        have hlt' : Thing.lt x (s'.get q) = true := by unfold Thing.lt; simpa using hlt
        go_roundw
        case rel =>
          refine ⟨q, s'.lay k (s'.get q), rfl, h3, ?_, by rw [HS.length_lay]; exact hql, ?_, (hkp.trans k2.of_none (fun _ _ x => x)).trans hk3 (fun _ _ x => x)⟩
          · show _ = _
            rw [← hr.out, HS.rise_eq s' k x, if_pos]
            · rw [hq.out]
            · rw [hq.out]; exact ⟨hk0, hlt'⟩
          · exact fun j => HS.wf_lay hw' (hw' q) k j
        case measure =>
          have := hq.out
          simp [intOf]; omega
      · have hge : 0 ≤ aheadI x.key x.num (s'.get q).key (s'.get q).num := by assumption
        refine (layT_c w2 p g mb cap s' next hs2 k hk x hwx).mono ?_
        rintro e w3 ⟨rfl, h3, hk3⟩
        go_wp2_with fail
        go_end0
        refine ⟨rfl, ?_, ?_⟩
        · rw [HX.out, ← hr.out, HS.rise_eq, if_neg]
          · exact h3
          · unfold Thing.lt; rw [hq.out]; simp; omega
        · exact ((k1.of_none.trans hkp (fun _ _ x => x)).trans k2.of_none (fun _ _ x => x)).trans hk3 (fun _ _ x => x)
    · obtain rfl : k = 0 := by omega
      have hd : decide ((0 : Int) < ((0 : Nat) : Int)) = false := by simp
      go_quiet (fail)
      go_wp2_with fail
      have k2 : Keeps NoBlk wr (wr.drewN nq) := (Keeps.refl _ wr).drewN _
      refine (layT_c _ p g mb cap s' next (hs'.keep k2 id id id) 0 hk x hwx).mono ?_
      rintro e w3 ⟨rfl, h3, hk3⟩
      go_wp2_with fail
      go_end0
      refine ⟨rfl, ?_, ?_⟩
      · rw [HX.out, ← hr.out, HS.rise_eq, if_neg (by omega)]
        exact h3
      · exact ((k1.of_none.trans hkp (fun _ _ x => x)).trans k2.of_none (fun _ _ x => x)).trans hk3 (fun _ _ x => x)


set_option maxHeartbeats 4000000 in
theorem sinkT_c (w : World) (p g mb cap : Nat) (s : HS Tm) (next : Int) (h : HRawT w p g mb cap s next) (i : Nat) (hi : i < s.a.length) (hbig : s.a.length ≤ 1000000000000) (hx : ∀ j, (Lit.int .i64 (s.get j).num).wf = true) :
    Calls Try.prog 173 #[.pointer (some ⟨p, 0, none⟩), .int .i64 i] w fun e w' =>
      e = .returned (.tuple #[]) ∧ HRawT w' p g mb cap (s.sink i (s.get i)) next ∧ Keeps (fun k => k = g ∨ k = mb) w w' := by
  obtain ⟨g0, g1, g2, g3, g4⟩ := h.cell hi
  obtain ⟨_, c1, _, _⟩ := h.fields
  have hi0 : (0 : Int) ≤ i := by omega
  have hi1 : (i : Int) < s.a.length := by omega
  go_enter Try.func173, Try.ntmps173
  go_wp2_with fail
  refine name_world ?_
  intro w1 hw1
  obtain ⟨B, hB⟩ : ∃ B, w.heap.size = B := ⟨_, rfl⟩
  rw [hB]
  obtain ⟨x, hxx⟩ : ∃ x, s.get i = x := ⟨_, rfl⟩
  rw [hxx] at hw1 g0 g1 g2 g3 g4 ⊢
  have hwx : (Lit.int .i64 x.num).wf = true := by rw [← hxx]; exact hx i
  have HX : Hid (s.get i = x) := hxx
  clear hxx
  have k1 : Keeps NoBlk w w1 := by subst hw1; exact (Keeps.refl _ _).alloc _
  have h1 : HRawT w1 p g mb cap s next := h.keep k1 id id id
  have b0 : w1.cell? ⟨B, 0, none⟩ = some (.int .i64 x.key) := by subst hw1 hB; simp
  have b1 : w1.cell? ⟨B, 1, none⟩ = some (.int .i64 x.num) := by subst hw1 hB; simp
  have b2 : w1.cell? ⟨B, 2, none⟩ = some (.int .i64 x.v.due) := by subst hw1 hB; simp
  have b3 : w1.cell? ⟨B, 3, none⟩ = some (.string x.v.owner) := by subst hw1 hB; simp
  have b4 : w1.cell? ⟨B, 4, none⟩ = some (.int .i64 x.v.id) := by subst hw1 hB; simp
  have hBs : B < w1.heap.size := by subst hw1 hB; simp
  have hgB : ¬ B = g := by have := h.lt.2.1; omega
  have hmB : ¬ B = mb := by have := h.lt.2.2; omega
  clear hw1 hB g0 g1 g2 g3 g4 c1 hi0 hi1
  go_loopw [1] (fun iv wr => ∃ (k : Nat) (s' : HS Tm), iv = .int .i64 k ∧ HRawT wr p g mb cap s' next ∧ Hid (s'.sink k x = s.sink i x) ∧ k < s'.a.length ∧ s'.a.length ≤ 1000000000000 ∧ Hid (s'.a.length = s.a.length) ∧ (∀ j, (Lit.int .i64 (s'.get j).num).wf = true) ∧ Keeps (fun k => k = g ∨ k = mb) w1 wr) (fun iv _ => s.a.length - (intOf iv).toNat)
  case atStart => exact ⟨i, s, rfl, h1, rfl, hi, hbig, rfl, hx, Keeps.refl _ _⟩
  case round =>
    obtain ⟨k, s', rfl, hs', hr, hk, hb', hl, hw', hkp⟩ := hrel
    have b0' := (hkp.cell (p := ⟨B, 0, none⟩) hBs (by simp [*])).trans b0
    have b1' := (hkp.cell (p := ⟨B, 1, none⟩) hBs (by simp [*])).trans b1
    have b2' := (hkp.cell (p := ⟨B, 2, none⟩) hBs (by simp [*])).trans b2
    have b3' := (hkp.cell (p := ⟨B, 3, none⟩) hBs (by simp [*])).trans b3
    have b4' := (hkp.cell (p := ⟨B, 4, none⟩) hBs (by simp [*])).trans b4
    have hBr : B < wr.heap.size := Nat.lt_of_lt_of_le hBs hkp.size
    obtain ⟨_, c1, _, _⟩ := hs'.fields
    obtain ⟨ca, hca0⟩ : ∃ ca, 2 * k + 1 = ca := ⟨_, rfl⟩
    obtain ⟨cb, hcb0⟩ : ∃ cb, 2 * k + 2 = cb := ⟨_, rfl⟩
    have ea : 2 * (k : Int) + 1 = (ca : Int) := by omega
    have eb : (ca : Int) + 1 = (cb : Int) := by omega
    have hca : Hid (2 * k + 1 = ca) := hca0
    have hcb : Hid (2 * k + 2 = cb) := hcb0
    have wa := w64 (a := 2 * (k : Int)) (by omega)
    have wb := w64 (a := (ca : Int)) (by omega)
    have wc := w64 (a := (cb : Int)) (by omega)
    have k0 : (0 : Int) ≤ k := by omega
    have k1' : (0 : Int) ≤ ca := by omega
    have k2' : (0 : Int) ≤ cb := by omega
    clear hca0 hcb0
    by_cases hA : s'.a.length ≤ 2 * k + 1
    · have hA' : (s'.a.length : Int) ≤ (ca : Int) := by have := hca.out; omega
      go_wp2_with fail
      have hs2 := hs'
      refine (layT_c _ p g mb cap s' next hs2 k hk x hwx).mono ?_
      rintro e w3 ⟨rfl, h3, hk3⟩
      go_wp2_with fail
      go_end0
      refine ⟨rfl, ?_, (k1.of_none.trans hkp (fun _ _ x => x)).trans hk3 (fun _ _ x => x)⟩
      rw [HX.out, ← hr.out, HS.sink_eq, if_pos hA]
      exact h3
    · have hA' : (ca : Int) < (s'.a.length : Int) := by have := hca.out; omega
      have hcal : ca < s'.a.length := by have := hca.out; omega
      have q3 : (ca : Int) < s'.a.length := by omega
      go_wp2_with fail
      by_cases hB1 : 2 * k + 2 < s'.a.length
      · have hcbl : cb < s'.a.length := by have := hcb.out; omega
        have q5 : (cb : Int) < s'.a.length := by omega
        obtain ⟨g0, g1, g2, g3, g4⟩ := hs'.cell hcal
        obtain ⟨r0, r1, r2, r3, r4⟩ := hs'.cell hcbl
        go_region_held3 (fun w' => w'.cell? ⟨p, 1, none⟩ = some (.slice (some ⟨g, 0, none⟩) s'.a.length cap) ∧ w'.cell? ⟨g, ca * 5, none⟩ = some (.int .i64 (s'.get ca).key) ∧ w'.cell? ⟨g, ca * 5 + 1, none⟩ = some (.int .i64 (s'.get ca).num) ∧ w'.cell? ⟨g, ca * 5 + 2, none⟩ = some (.int .i64 (s'.get ca).v.due) ∧ w'.cell? ⟨g, ca * 5 + 3, none⟩ = some (.string (s'.get ca).v.owner) ∧ w'.cell? ⟨g, ca * 5 + 4, none⟩ = some (.int .i64 (s'.get ca).v.id) ∧ w'.cell? ⟨g, cb * 5, none⟩ = some (.int .i64 (s'.get cb).key) ∧ w'.cell? ⟨g, cb * 5 + 1, none⟩ = some (.int .i64 (s'.get cb).num) ∧ w'.cell? ⟨g, cb * 5 + 2, none⟩ = some (.int .i64 (s'.get cb).v.due) ∧ w'.cell? ⟨g, cb * 5 + 3, none⟩ = some (.string (s'.get cb).v.owner) ∧ w'.cell? ⟨g, cb * 5 + 4, none⟩ = some (.int .i64 (s'.get cb).v.id))
          (first | (simp [*]; done) | exact ⟨(hg2.keeps.cell hs'.lt.1 id).trans c1, (hg2.keeps.cell hs'.lt.2.1 id).trans g0, (hg2.keeps.cell hs'.lt.2.1 id).trans g1, (hg2.keeps.cell hs'.lt.2.1 id).trans g2, (hg2.keeps.cell hs'.lt.2.1 id).trans g3, (hg2.keeps.cell hs'.lt.2.1 id).trans g4, (hg2.keeps.cell hs'.lt.2.1 id).trans r0, (hg2.keeps.cell hs'.lt.2.1 id).trans r1, (hg2.keeps.cell hs'.lt.2.1 id).trans r2, (hg2.keeps.cell hs'.lt.2.1 id).trans r3, (hg2.keeps.cell hs'.lt.2.1 id).trans r4⟩)
          ((go_at_call 177; refine (aheadT_c (s'.get cb) (s'.get ca) _).mono ?_; rintro e w2 ⟨rfl, hg2⟩))
        have k2 : Keeps NoBlk wr w2 := ((Keeps.refl _ wr).drew).trans hg2.keeps (fun _ _ x => x)
        have hs2 : HRawT w2 p g mb cap s' next := hs'.keep k2 id id id
        go_wp2_with fail
        · have hlt : aheadI (s'.get cb).key (s'.get cb).num (s'.get ca).key (s'.get ca).num < 0 := by assumption
          have hless : Hid (s'.less k = cb) := by
            show _ = _
            unfold HS.less Thing.lt
            rw [hca.out, hcb.out, if_pos ⟨hcbl, by simpa using hlt⟩]
          obtain ⟨g0, g1, g2, g3, g4⟩ := hs2.cell hcbl
          obtain ⟨_, c2, _, _⟩ := hs2.fields
          have a0 := (k2.cell (p := ⟨B, 0, none⟩) hBr id).trans b0'
          have a1 := (k2.cell (p := ⟨B, 1, none⟩) hBr id).trans b1'
          have a2 := (k2.cell (p := ⟨B, 2, none⟩) hBr id).trans b2'
          have a3 := (k2.cell (p := ⟨B, 3, none⟩) hBr id).trans b3'
          have a4 := (k2.cell (p := ⟨B, 4, none⟩) hBr id).trans b4'
          have hB2 : B < w2.heap.size := Nat.lt_of_lt_of_le hBr k2.size
          have q4 : (cb : Int) < s'.a.length := by omega
          go_region_held3 (fun w' => w'.cell? ⟨p, 1, none⟩ = some (.slice (some ⟨g, 0, none⟩) s'.a.length cap) ∧ w'.cell? ⟨B, 0, none⟩ = some (.int .i64 x.key) ∧ w'.cell? ⟨B, 1, none⟩ = some (.int .i64 x.num) ∧ w'.cell? ⟨B, 2, none⟩ = some (.int .i64 x.v.due) ∧ w'.cell? ⟨B, 3, none⟩ = some (.string x.v.owner) ∧ w'.cell? ⟨B, 4, none⟩ = some (.int .i64 x.v.id) ∧ w'.cell? ⟨g, cb * 5, none⟩ = some (.int .i64 (s'.get cb).key) ∧ w'.cell? ⟨g, cb * 5 + 1, none⟩ = some (.int .i64 (s'.get cb).num) ∧ w'.cell? ⟨g, cb * 5 + 2, none⟩ = some (.int .i64 (s'.get cb).v.due) ∧ w'.cell? ⟨g, cb * 5 + 3, none⟩ = some (.string (s'.get cb).v.owner) ∧ w'.cell? ⟨g, cb * 5 + 4, none⟩ = some (.int .i64 (s'.get cb).v.id)) (first | (simp [*]; done) | exact ⟨(hg4.keeps.cell hs2.lt.1 id).trans c2, (hg4.keeps.cell hB2 id).trans a0, (hg4.keeps.cell hB2 id).trans a1, (hg4.keeps.cell hB2 id).trans a2, (hg4.keeps.cell hB2 id).trans a3, (hg4.keeps.cell hB2 id).trans a4, (hg4.keeps.cell hs2.lt.2.1 id).trans g0, (hg4.keeps.cell hs2.lt.2.1 id).trans g1, (hg4.keeps.cell hs2.lt.2.1 id).trans g2, (hg4.keeps.cell hs2.lt.2.1 id).trans g3, (hg4.keeps.cell hs2.lt.2.1 id).trans g4⟩) ((go_at_call 177; refine (aheadT_c x (s'.get cb) _).mono ?_; rintro e w4 ⟨rfl, hg4⟩))
          have k4 : Keeps NoBlk w2 w4 := ((Keeps.refl _ w2).drew).trans hg4.keeps (fun _ _ x => x)
          have hs4 : HRawT w4 p g mb cap s' next := hs2.keep k4 id id id
          go_wp2_with fail
          · have hlt : aheadI x.key x.num (s'.get cb).key (s'.get cb).num < 0 := by assumption
            have hlt' : Thing.lt x (s'.get cb) = true := by unfold Thing.lt; simpa using hlt
            refine (layT_c _ p g mb cap s' next hs4 k hk x hwx).mono ?_
            rintro e w5 ⟨rfl, h5, hk5⟩
            go_wp2_with fail
            go_end0
            refine ⟨rfl, ?_, (((k1.of_none.trans hkp (fun _ _ x => x)).trans k2.of_none (fun _ _ x => x)).trans k4.of_none (fun _ _ x => x)).trans hk5 (fun _ _ x => x)⟩
            rw [HX.out, ← hr.out, HS.sink_eq, if_neg hA, if_pos (by rw [hless.out]; exact hlt')]
            exact h5
          · have hge : 0 ≤ aheadI x.key x.num (s'.get cb).key (s'.get cb).num := by assumption
            have hge' : ¬ Thing.lt x (s'.get cb) = true := by unfold Thing.lt; simp; omega
            refine (layT_c _ p g mb cap s' next hs4 k hk (s'.get cb) (hw' cb)).mono ?_
            rintro e w5 ⟨rfl, h5, hk5⟩
            go_wp2_with fail
            go_roundw
            case rel =>
              refine ⟨cb, s'.lay k (s'.get cb), rfl, h5, ?_, by rw [HS.length_lay]; exact hcbl, by rw [HS.length_lay]; exact hb', by rw [HS.length_lay]; exact hl, fun j => HS.wf_lay hw' (hw' cb) k j, ((hkp.trans k2.of_none (fun _ _ x => x)).trans k4.of_none (fun _ _ x => x)).trans hk5 (fun _ _ x => x)⟩
              show _ = _
              rw [← hr.out, HS.sink_eq s' k x, if_neg hA, if_neg (by rw [hless.out]; exact hge'), hless.out]
            case measure =>
              have h1 := hca.out
              have h2 := hcb.out
              have h3 := hl.out
              have h4 : cb < s'.a.length := hcbl
              simp [intOf]; omega
        · have hge : 0 ≤ aheadI (s'.get cb).key (s'.get cb).num (s'.get ca).key (s'.get ca).num := by assumption
          have hless : Hid (s'.less k = ca) := by
            show _ = _
            unfold HS.less Thing.lt
            rw [hca.out, hcb.out, if_neg (by simp; omega)]
          obtain ⟨g0, g1, g2, g3, g4⟩ := hs2.cell hcal
          obtain ⟨_, c2, _, _⟩ := hs2.fields
          have a0 := (k2.cell (p := ⟨B, 0, none⟩) hBr id).trans b0'
          have a1 := (k2.cell (p := ⟨B, 1, none⟩) hBr id).trans b1'
          have a2 := (k2.cell (p := ⟨B, 2, none⟩) hBr id).trans b2'
          have a3 := (k2.cell (p := ⟨B, 3, none⟩) hBr id).trans b3'
          have a4 := (k2.cell (p := ⟨B, 4, none⟩) hBr id).trans b4'
          have hB2 : B < w2.heap.size := Nat.lt_of_lt_of_le hBr k2.size
          have q4 : (ca : Int) < s'.a.length := by omega
          go_region_held3 (fun w' => w'.cell? ⟨p, 1, none⟩ = some (.slice (some ⟨g, 0, none⟩) s'.a.length cap) ∧ w'.cell? ⟨B, 0, none⟩ = some (.int .i64 x.key) ∧ w'.cell? ⟨B, 1, none⟩ = some (.int .i64 x.num) ∧ w'.cell? ⟨B, 2, none⟩ = some (.int .i64 x.v.due) ∧ w'.cell? ⟨B, 3, none⟩ = some (.string x.v.owner) ∧ w'.cell? ⟨B, 4, none⟩ = some (.int .i64 x.v.id) ∧ w'.cell? ⟨g, ca * 5, none⟩ = some (.int .i64 (s'.get ca).key) ∧ w'.cell? ⟨g, ca * 5 + 1, none⟩ = some (.int .i64 (s'.get ca).num) ∧ w'.cell? ⟨g, ca * 5 + 2, none⟩ = some (.int .i64 (s'.get ca).v.due) ∧ w'.cell? ⟨g, ca * 5 + 3, none⟩ = some (.string (s'.get ca).v.owner) ∧ w'.cell? ⟨g, ca * 5 + 4, none⟩ = some (.int .i64 (s'.get ca).v.id)) (first | (simp [*]; done) | exact ⟨(hg4.keeps.cell hs2.lt.1 id).trans c2, (hg4.keeps.cell hB2 id).trans a0, (hg4.keeps.cell hB2 id).trans a1, (hg4.keeps.cell hB2 id).trans a2, (hg4.keeps.cell hB2 id).trans a3, (hg4.keeps.cell hB2 id).trans a4, (hg4.keeps.cell hs2.lt.2.1 id).trans g0, (hg4.keeps.cell hs2.lt.2.1 id).trans g1, (hg4.keeps.cell hs2.lt.2.1 id).trans g2, (hg4.keeps.cell hs2.lt.2.1 id).trans g3, (hg4.keeps.cell hs2.lt.2.1 id).trans g4⟩) ((go_at_call 177; refine (aheadT_c x (s'.get ca) _).mono ?_; rintro e w4 ⟨rfl, hg4⟩))
          have k4 : Keeps NoBlk w2 w4 := ((Keeps.refl _ w2).drew).trans hg4.keeps (fun _ _ x => x)
          have hs4 : HRawT w4 p g mb cap s' next := hs2.keep k4 id id id
          go_wp2_with fail
          · have hlt : aheadI x.key x.num (s'.get ca).key (s'.get ca).num < 0 := by assumption
            have hlt' : Thing.lt x (s'.get ca) = true := by unfold Thing.lt; simpa using hlt
            refine (layT_c _ p g mb cap s' next hs4 k hk x hwx).mono ?_
            rintro e w5 ⟨rfl, h5, hk5⟩
            go_wp2_with fail
            go_end0
            refine ⟨rfl, ?_, (((k1.of_none.trans hkp (fun _ _ x => x)).trans k2.of_none (fun _ _ x => x)).trans k4.of_none (fun _ _ x => x)).trans hk5 (fun _ _ x => x)⟩
            rw [HX.out, ← hr.out, HS.sink_eq, if_neg hA, if_pos (by rw [hless.out]; exact hlt')]
            exact h5
          · have hge : 0 ≤ aheadI x.key x.num (s'.get ca).key (s'.get ca).num := by assumption
            have hge' : ¬ Thing.lt x (s'.get ca) = true := by unfold Thing.lt; simp; omega
            refine (layT_c _ p g mb cap s' next hs4 k hk (s'.get ca) (hw' ca)).mono ?_
            rintro e w5 ⟨rfl, h5, hk5⟩
            go_wp2_with fail
            go_roundw
            case rel =>
              refine ⟨ca, s'.lay k (s'.get ca), rfl, h5, ?_, by rw [HS.length_lay]; exact hcal, by rw [HS.length_lay]; exact hb', by rw [HS.length_lay]; exact hl, fun j => HS.wf_lay hw' (hw' ca) k j, ((hkp.trans k2.of_none (fun _ _ x => x)).trans k4.of_none (fun _ _ x => x)).trans hk5 (fun _ _ x => x)⟩
              show _ = _
              rw [← hr.out, HS.sink_eq s' k x, if_neg hA, if_neg (by rw [hless.out]; exact hge'), hless.out]
            case measure =>
              have h1 := hca.out
              have h2 := hcb.out
              have h3 := hl.out
              have h4 : ca < s'.a.length := hcal
              simp [intOf]; omega
      · have hd : decide (cb < s'.a.length) = false := by have := hcb.out; simp; omega
        go_quiet (fail)
        go_wp2_with fail
        refine name_world ?_
        intro w2 hw2
        have k2 : Keeps NoBlk wr w2 := by subst hw2; exact (Keeps.refl _ wr).drewN _
        have hs2 : HRawT w2 p g mb cap s' next := hs'.keep k2 id id id
        clear hw2
        have hless : Hid (s'.less k = ca) := by
          show _ = _
          unfold HS.less
          rw [hca.out, if_neg (fun h => hB1 h.1)]
        obtain ⟨g0, g1, g2, g3, g4⟩ := hs2.cell hcal
        obtain ⟨_, c2, _, _⟩ := hs2.fields
        have a0 := (k2.cell (p := ⟨B, 0, none⟩) hBr id).trans b0'
        have a1 := (k2.cell (p := ⟨B, 1, none⟩) hBr id).trans b1'
        have a2 := (k2.cell (p := ⟨B, 2, none⟩) hBr id).trans b2'
        have a3 := (k2.cell (p := ⟨B, 3, none⟩) hBr id).trans b3'
        have a4 := (k2.cell (p := ⟨B, 4, none⟩) hBr id).trans b4'
        have hB2 : B < w2.heap.size := Nat.lt_of_lt_of_le hBr k2.size
        have q4 : (ca : Int) < s'.a.length := by omega
        go_region_held3 (fun w' => w'.cell? ⟨p, 1, none⟩ = some (.slice (some ⟨g, 0, none⟩) s'.a.length cap) ∧ w'.cell? ⟨B, 0, none⟩ = some (.int .i64 x.key) ∧ w'.cell? ⟨B, 1, none⟩ = some (.int .i64 x.num) ∧ w'.cell? ⟨B, 2, none⟩ = some (.int .i64 x.v.due) ∧ w'.cell? ⟨B, 3, none⟩ = some (.string x.v.owner) ∧ w'.cell? ⟨B, 4, none⟩ = some (.int .i64 x.v.id) ∧ w'.cell? ⟨g, ca * 5, none⟩ = some (.int .i64 (s'.get ca).key) ∧ w'.cell? ⟨g, ca * 5 + 1, none⟩ = some (.int .i64 (s'.get ca).num) ∧ w'.cell? ⟨g, ca * 5 + 2, none⟩ = some (.int .i64 (s'.get ca).v.due) ∧ w'.cell? ⟨g, ca * 5 + 3, none⟩ = some (.string (s'.get ca).v.owner) ∧ w'.cell? ⟨g, ca * 5 + 4, none⟩ = some (.int .i64 (s'.get ca).v.id)) (first | (simp [*]; done) | exact ⟨(hg4.keeps.cell hs2.lt.1 id).trans c2, (hg4.keeps.cell hB2 id).trans a0, (hg4.keeps.cell hB2 id).trans a1, (hg4.keeps.cell hB2 id).trans a2, (hg4.keeps.cell hB2 id).trans a3, (hg4.keeps.cell hB2 id).trans a4, (hg4.keeps.cell hs2.lt.2.1 id).trans g0, (hg4.keeps.cell hs2.lt.2.1 id).trans g1, (hg4.keeps.cell hs2.lt.2.1 id).trans g2, (hg4.keeps.cell hs2.lt.2.1 id).trans g3, (hg4.keeps.cell hs2.lt.2.1 id).trans g4⟩) ((go_at_call 177; refine (aheadT_c x (s'.get ca) _).mono ?_; rintro e w4 ⟨rfl, hg4⟩))
        have k4 : Keeps NoBlk w2 w4 := ((Keeps.refl _ w2).drew).trans hg4.keeps (fun _ _ x => x)
        have hs4 : HRawT w4 p g mb cap s' next := hs2.keep k4 id id id
        go_wp2_with fail
        · have hlt : aheadI x.key x.num (s'.get ca).key (s'.get ca).num < 0 := by assumption
          have hlt' : Thing.lt x (s'.get ca) = true := by unfold Thing.lt; simpa using hlt
          refine (layT_c _ p g mb cap s' next hs4 k hk x hwx).mono ?_
          rintro e w5 ⟨rfl, h5, hk5⟩
          go_wp2_with fail
          go_end0
          refine ⟨rfl, ?_, (((k1.of_none.trans hkp (fun _ _ x => x)).trans k2.of_none (fun _ _ x => x)).trans k4.of_none (fun _ _ x => x)).trans hk5 (fun _ _ x => x)⟩
          rw [HX.out, ← hr.out, HS.sink_eq, if_neg hA, if_pos (by rw [hless.out]; exact hlt')]
          exact h5
        · have hge : 0 ≤ aheadI x.key x.num (s'.get ca).key (s'.get ca).num := by assumption
          have hge' : ¬ Thing.lt x (s'.get ca) = true := by unfold Thing.lt; simp; omega
          refine (layT_c _ p g mb cap s' next hs4 k hk (s'.get ca) (hw' ca)).mono ?_
          rintro e w5 ⟨rfl, h5, hk5⟩
          go_wp2_with fail
          go_roundw
          case rel =>
            refine ⟨ca, s'.lay k (s'.get ca), rfl, h5, ?_, by rw [HS.length_lay]; exact hcal, by rw [HS.length_lay]; exact hb', by rw [HS.length_lay]; exact hl, fun j => HS.wf_lay hw' (hw' ca) k j, ((hkp.trans k2.of_none (fun _ _ x => x)).trans k4.of_none (fun _ _ x => x)).trans hk5 (fun _ _ x => x)⟩
            show _ = _
            rw [← hr.out, HS.sink_eq s' k x, if_neg hA, if_neg (by rw [hless.out]; exact hge'), hless.out]
          case measure =>
            have h1 := hca.out
            have h2 := hcb.out
            have h3 := hl.out
            have h4 : ca < s'.a.length := hcal
            simp [intOf]; omega

end Go.Proofs.Ytofdcmbjcpfabaa
