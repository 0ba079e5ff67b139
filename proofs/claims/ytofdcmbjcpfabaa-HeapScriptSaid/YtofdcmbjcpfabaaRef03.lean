/- Layer 3's reference: a list of things, looked through. -/
import Derived.Test.YtofdcmbjcpfabaaLaw03a
namespace Go.Proofs.Ytofdcmbjcpfabaa
open Go.RowKit Go.Maps Go.MapKept Go.ChangeMaps
attribute [local go_sem ↓] Go.wp_at_zero Go.wp_at_succ

theorem infoRf : (Try.prog.info? 94).map (fun i => (i.zero, i.size, i.bytes)) = some (some (.agg #[.int .i64 0, .int .i64 0, .int .i64 0]), 3, 24) := by kernel_rfl

structure RfRaw (w : World) (p : Nat) (lv : Value) (R : List (Thing Int)) (next : Int) : Prop where
  hp : w.heap[p]? = some (.cells #[lv, .int .i64 next] 89 (0, 0))
  hg : RowV w 94 3 encI lv R

def RfFoot (p : Nat) (lv : Value) : Nat → Prop := fun k => k = p ∨ lv.ownBlock = some k

section
variable {w w' : World} {p : Nat} {lv : Value} {R : List (Thing Int)} {next : Int}

theorem RfRaw.ne (h : RfRaw w p lv R next) : ∀ b, lv.ownBlock = some b → ¬ b = p := fun b hb e => by
  rcases h.hg.2 with ⟨e, _⟩ | ⟨g, cap, cur, e1, _, r2, _⟩
  · subst e; cases hb
  · subst e1; cases hb; subst e; rw [h.hp] at r2; cases r2

theorem RfRaw.lt (h : RfRaw w p lv R next) : p < w.heap.size ∧ ∀ b, lv.ownBlock = some b → b < w.heap.size := ⟨block_lt h.hp, fun b hb => (World.ownsRow.lt h.hg b hb).2⟩

theorem RfRaw.foot_lt (h : RfRaw w p lv R next) : ∀ k, RfFoot p lv k → k < w.heap.size := fun k hk => by
  rcases hk with rfl | hk
  · exact h.lt.1
  · exact h.lt.2 k hk

theorem RfRaw.keep (h : RfRaw w p lv R next) {S : Nat → Prop} (hk : Keeps S w w') (hd : ∀ k, RfFoot p lv k → ¬ S k) : RfRaw w' p lv R next :=
  ⟨(hk.block p h.lt.1 (hd p (.inl rfl))).trans h.hp, h.hg.at_block (fun b hb => hk.block b (h.lt.2 b hb) (hd b (.inr hb)))⟩

theorem RfRaw.fields (h : RfRaw w p lv R next) : w.cell? ⟨p, 0, none⟩ = some lv ∧ w.cell? ⟨p, 1, none⟩ = some (.int .i64 next) := by
  refine ⟨?_, ?_⟩ <;> (rw [cell_of_row _ _ _ _ _ _ h.hp]; rfl)

theorem RfRaw.frozen (h : RfRaw w p lv R next) (o : Nat) : w.frozen? ⟨p, o, none⟩ = false := frozen_of_row _ _ _ _ _ h.hp

theorem RfRaw.form (h : RfRaw w p lv R next) : (lv = .slice none 0 0 ∧ R = []) ∨ ∃ g cap, lv = .slice (some ⟨g, 0, none⟩) R.length cap := h.hg.form
theorem RfRaw.len (h : RfRaw w p lv R next) : ∃ a cap, lv = .slice a R.length cap := by
  rcases h.form with ⟨rfl, rfl⟩ | ⟨g, cap, rfl⟩
  · exact ⟨none, 0, rfl⟩
  · exact ⟨_, _, rfl⟩

/-- The i-th thing's cells. -/
theorem RfRaw.at (h : RfRaw w p lv R next) {i : Nat} (hi : i < R.length) : ∃ g cap, lv = .slice (some ⟨g, 0, none⟩) R.length cap ∧ g < w.heap.size ∧ w.cell? ⟨g, i * 3, none⟩ = some (.int .i64 R[i].key) ∧ w.cell? ⟨g, i * 3 + 1, none⟩ = some (.int .i64 R[i].num) ∧ w.cell? ⟨g, i * 3 + 2, none⟩ = some (.int .i64 R[i].v) := by
  rcases h.form with ⟨_, e⟩ | ⟨g, cap, rfl⟩
  · subst e; simp at hi
  · have hr : RowAt w 94 3 encI g cap R := h.hg
    exact ⟨g, cap, rfl, hr.lt, hr.cell encI_len hi (j := 0) (by omega), hr.cell encI_len hi (j := 1) (by omega), hr.cell encI_len hi (j := 2) (by omega)⟩
end

/-- The reference at p, its blocks S: the things R, the next number. -/
def IsRef (w : World) (p : Nat) (S : Nat → Prop) (R : List (Thing Int)) (next : Int) : Prop := ∃ lv, RfRaw w p lv R next ∧ S = RfFoot p lv

section
variable {w w' : World} {p : Nat} {S : Nat → Prop} {R : List (Thing Int)} {next : Int}
theorem IsRef.lt (h : IsRef w p S R next) : ∀ k, S k → k < w.heap.size := by
  obtain ⟨lv, hr, rfl⟩ := h; exact hr.foot_lt
theorem IsRef.keep (h : IsRef w p S R next) {T : Nat → Prop} (hk : Keeps T w w') (hd : ∀ k, S k → ¬ T k) : IsRef w' p S R next := by
  obtain ⟨lv, hr, rfl⟩ := h; exact ⟨lv, hr.keep hk hd, rfl⟩
end

/-- The first of the first i: the least key, and the lowest place of it. -/
def FirstN (R : List (Thing Int)) (i : Nat) (a : Int) : Prop :=
  (i = 0 ∧ a = -1) ∨ ∃ j : Nat, a = j ∧ ∃ x, R[j]? = some x ∧ j < i ∧ (∀ m y, m < i → R[m]? = some y → x.key ≤ y.key) ∧ ∀ m y, m < j → R[m]? = some y → x.key < y.key

set_option maxRecDepth 100000 in
set_option maxHeartbeats 2000000 in
theorem first_r {w : World} {p : Nat} {S : Nat → Prop} {R : List (Thing Int)} {next : Int} (h : IsRef w p S R next) (hb : R.length ≤ 1000000) :
    Calls Try.prog 105 #[.pointer (some ⟨p, 0, none⟩)] w fun e w' => ∃ a, e = .returned (.int .i64 a) ∧ FirstN R R.length a ∧ Keeps NoBlk w w' := by
  obtain ⟨lv, hr, _⟩ := h
  go_enter Try.func105, Try.ntmps105
  go_wp2_with fail
  go_loopw [3, 4] (fun av iv wr => ∃ (i : Nat) (a : Int), av = .int .i64 a ∧ iv = .int .i64 i ∧ i ≤ R.length ∧ FirstN R i a ∧ Keeps NoBlk w wr) (fun _ iv _ => R.length - (intOf iv).toNat)
  case atStart => exact ⟨0, -1, rfl, rfl, Nat.zero_le _, .inl ⟨rfl, rfl⟩, Keeps.refl _ _⟩
  case round =>
    obtain ⟨i, a, rfl, rfl, hi, hF, hK⟩ := hrel
    have hr' := hr.keep hK (fun _ _ x => x)
    obtain ⟨c0, _⟩ := hr'.fields
    have i0 : (0 : Int) ≤ i := by omega
    by_cases hlt : (i : Int) < R.length
    · have hil : i < R.length := by omega
      obtain ⟨g, cap, rfl, hg, k0, _⟩ := hr'.at hil
      obtain ⟨x, hx⟩ : ∃ x, R[i] = x := ⟨_, rfl⟩
      have hxo : R[i]? = some x := by rw [List.getElem?_eq_getElem hil, hx]
      rw [hx] at k0
      have hnat : ¬ R.length ≤ i := by omega
      rcases hF with ⟨rfl, rfl⟩ | ⟨j, rfl, y, hy, hji, h1, h2⟩
      · clear hx hr
        have k0' : wr.cell? ⟨g, 0, none⟩ = some (.int .i64 x.key) := by simpa using k0
        go_wp2_with fail
        go_quiet (fail)
        have kq : Keeps NoBlk wr (wr.drewN nq) := (Keeps.refl _ _).drewN nq
        go_wp2_with fail
        go_roundw
        case rel => exact ⟨1, 0, rfl, by go_num, by omega, .inr ⟨0, rfl, x, hxo, by omega, fun m z hm hz => by
          obtain rfl : m = 0 := by omega
          rw [hxo] at hz; cases hz; exact Int.le_refl _, fun m z hm => by omega⟩, hK.trans kq (fun _ _ x => x)⟩
        case measure => simp [intOf]; omega
      · have hjl : j < R.length := by omega
        obtain ⟨g', cap', e', _, m0, _⟩ := hr'.at hjl
        cases e'
        obtain rfl : R[j] = y := by rw [List.getElem?_eq_getElem hjl] at hy; exact Option.some.inj hy
        obtain ⟨y, hyy⟩ : ∃ y, R[j] = y := ⟨_, rfl⟩
        rw [hyy] at m0 h1 h2 hy
        have j0 : (0 : Int) ≤ j := by omega
        have j1 : ¬ (j : Int) < 0 := by omega
        have j2 : (j : Int) < R.length := by omega
        have j3 : ¬ R.length ≤ j := by omega
        clear hx hr hyy
        by_cases hxy : x.key < y.key
        · go_wp2_with fail
          go_quiet (fail)
          have kq : Keeps NoBlk wr (wr.drewN nq) := (Keeps.refl _ _).drewN nq
          go_wp2_with fail
          go_roundw
          case rel => exact ⟨i + 1, i, rfl, by go_num, by omega, .inr ⟨i, rfl, x, hxo, by omega, fun m z hm hz => by
            by_cases e : m = i
            · subst e; rw [hxo] at hz; cases hz; exact Int.le_refl _
            · have := h1 m z (by omega) hz; omega, fun m z hm hz => by have := h1 m z (by omega) hz; omega⟩, hK.trans kq (fun _ _ x => x)⟩
          case measure => simp [intOf]; omega
        · go_wp2_with fail
          go_quiet (fail)
          have kq : Keeps NoBlk wr (wr.drewN nq) := (Keeps.refl _ _).drewN nq
          go_wp2_with fail
          go_roundw
          case rel => exact ⟨i + 1, j, rfl, by go_num, by omega, .inr ⟨j, rfl, y, hy, by omega, fun m z hm hz => by
            by_cases e : m = i
            · subst e; rw [hxo] at hz; cases hz; omega
            · exact h1 m z (by omega) hz, h2⟩, hK.trans kq (fun _ _ x => x)⟩
          case measure => simp [intOf]; omega
    · obtain rfl : i = R.length := by omega
      obtain ⟨ga, gc, rfl⟩ := hr.len
      go_wp2_with fail
      go_ret
      exact ⟨a, rfl, hF, hK⟩

set_option maxRecDepth 100000 in
set_option maxHeartbeats 2000000 in
theorem find_r {w : World} {p : Nat} {S : Nat → Prop} {R : List (Thing Int)} {next : Int} (h : IsRef w p S R next) (hb : R.length ≤ 1000000) (n : Int) :
    Calls Try.prog 107 #[.pointer (some ⟨p, 0, none⟩), .int .i64 n] w fun e w' => ∃ a, e = .returned (.int .i64 a) ∧ ((a = -1 ∧ ∀ x ∈ R, x.num ≠ n) ∨ ∃ (j : Nat) (hj : j < R.length), a = j ∧ R[j].num = n) ∧ w = w' := by
  obtain ⟨lv, hr, _⟩ := h
  obtain ⟨c0, _⟩ := hr.fields
  go_enter Try.func107, Try.ntmps107
  go_wp2_with fail
  go_loopw [5] (fun iv wr => ∃ i : Nat, iv = .int .i64 i ∧ i ≤ R.length ∧ (∀ m y, m < i → R[m]? = some y → y.num ≠ n) ∧ w = wr) (fun iv _ => R.length - (intOf iv).toNat)
  case atStart => exact ⟨0, rfl, Nat.zero_le _, fun m y hm => by omega, rfl⟩
  case round =>
    obtain ⟨i, rfl, hi, hno, rfl⟩ := hrel
    have i0 : (0 : Int) ≤ i := by omega
    by_cases hlt : (i : Int) < R.length
    · have hil : i < R.length := by omega
      obtain ⟨g, cap, rfl, hg, _, k1, _⟩ := hr.at hil
      obtain ⟨x, hx⟩ : ∃ x, R[i] = x := ⟨_, rfl⟩
      have hxh : Hid (R[i]? = some x) := by show _ = _; rw [List.getElem?_eq_getElem hil, hx]
      rw [hx] at k1
      clear hx hr
      by_cases hxn : x.num = n
      · subst hxn
        go_wp2_with fail
        go_ret
        exact ⟨i, rfl, .inr ⟨i, hil, rfl, by have := hxh.out; rw [List.getElem?_eq_getElem hil] at this; rw [Option.some.inj this]⟩, rfl⟩
      · have hxn' : decide (x.num = n) = false := by simp [hxn]
        have hxq : Hid (¬ x.num = n) := hxn
        go_wp2_with fail
        go_roundw
        case rel => exact ⟨i + 1, by go_num, by omega, fun m y hm hy => by
          by_cases e : m = i
          · subst e; rw [hxh.out] at hy; cases hy; exact hxq.out
          · exact hno m y (by omega) hy, trivial⟩
        case measure => simp [intOf]; omega
    · obtain rfl : i = R.length := by omega
      obtain ⟨ga, gc, rfl⟩ := hr.len
      go_wp2_with fail
      go_ret
      exact ⟨-1, rfl, .inl ⟨rfl, fun x hx => by obtain ⟨m, hm⟩ := List.mem_iff_getElem?.1 hx; exact hno m x (List.getElem?_eq_some_iff.1 hm).1 hm⟩, rfl⟩

end Go.Proofs.Ytofdcmbjcpfabaa
