/- Reading numbers and texts: the reader. -/
import Derived.Test.YtofdcmbjcpfabaaCodeW
import Derived.WalkLawsBesides
import Derived.Deep.RegionHeld3
import Derived.Deep.DeepFit
import Derived.BigQuiet
import Derived.StillTailTactics
namespace Go.Proofs.Ytofdcmbjcpfabaa
open Go.RowKit Go.Maps Go.MapKept Go.ChangeMaps
attribute [local go_sem ↓] Go.wp_at_zero Go.wp_at_succ

/-- v is a slice of the bytes bs, wherever they lie. -/
def Bts (w : World) (v : Value) (bs : List UInt8) : Prop :=
  ∃ a cap, v = .slice a bs.length cap ∧ bs.length ≤ cap ∧ (bs ≠ [] → ∃ b off, a = some ⟨b, off, none⟩ ∧ b < w.heap.size ∧ ∀ j (hj : j < bs.length), w.cell? ⟨b, off + j, none⟩ = some (.int .u8 bs[j].toNat))

theorem Bts.keep {w w' : World} {v : Value} {bs : List UInt8} (h : Bts w v bs) {S : Nat → Prop} (hk : Keeps S w w') (hS : ∀ k, k < w.heap.size → ¬ S k) : Bts w' v bs := by
  obtain ⟨a, cap, rfl, hc, h⟩ := h
  refine ⟨a, cap, rfl, hc, fun hne => ?_⟩
  obtain ⟨b, off, rfl, hb, h⟩ := h hne
  exact ⟨b, off, rfl, Nat.lt_of_lt_of_le hb hk.size, fun j hj => (hk.cell (p := ⟨b, off + j, none⟩) hb (hS b hb)).trans (h j hj)⟩

/-- A reader in block r: of the bytes of v, at a place. -/
structure IsRd (w : World) (r : Nat) (v : Value) (p : Nat) : Prop where
  hp : w.heap[r]? = some (.cells #[v, .int .i64 p] 259 (0, 0))

theorem IsRd.cells {w : World} {r : Nat} {v : Value} {p : Nat} (h : IsRd w r v p) : w.cell? ⟨r, 0, none⟩ = some v ∧ w.cell? ⟨r, 1, none⟩ = some (.int .i64 p) ∧ w.frozen? ⟨r, 0, none⟩ = false ∧ w.frozen? ⟨r, 1, none⟩ = false := by
  refine ⟨?_, ?_, frozen_of_row _ _ _ _ _ h.hp, frozen_of_row _ _ _ _ _ h.hp⟩ <;> (rw [cell_of_row _ _ _ _ _ _ h.hp]; rfl)

theorem IsRd.move {w : World} {r : Nat} {v : Value} {p : Nat} (h : IsRd w r v p) (q : Nat) : IsRd (w.setCell ⟨r, 1, none⟩ (.int .i64 q)) r v q := by
  refine ⟨?_⟩
  rw [heap_setCell_same _ _ _ _ _ _ h.hp]; simp

/-- What a reader gives up with. -/
def flt (p : Nat) (e : Int) : PanicEntry := { v := .iface 256 (.agg #[.int .i64 p, .int .i64 e]), recovered := false }

set_option maxHeartbeats 1000000 in
theorem fail_c (w : World) (p : Nat) (e : Int) : Calls Try.prog 185 #[.int .i64 p, .int .i64 e] w fun e' w' => e' = .panicked [flt p e] ∧ w = w' := by
  go_enter Try.func185, Try.ntmps185
  go_wp2
  exact ⟨rfl, rfl, rfl⟩

set_option maxRecDepth 100000 in
set_option maxHeartbeats 2000000 in
theorem next_short {w : World} {r : Nat} {v : Value} {bs : List UInt8} {p : Nat} (h : IsRd w r v p) (hb : Bts w v bs) (hp : p = bs.length) :
    Calls Try.prog 184 #[.pointer (some ⟨r, 0, none⟩)] w fun e w' => e = .panicked [flt p 4] ∧ Keeps NoBlk w w' := by
  obtain ⟨a, cap, rfl, hc, _⟩ := hb
  obtain ⟨c0, c1, f0, f1⟩ := h.cells
  subst hp
  go_enter Try.func184, Try.ntmps184
  go_wp2_with fail
  go_quiet (fail)
  go_wp2_with fail
  refine (fail_c _ _ _).mono ?_
  rintro e w1 ⟨rfl, rfl⟩
  go_wp2_with fail
  exact ⟨rfl, rfl, (Keeps.refl _ _).drewN nq⟩

set_option maxRecDepth 100000 in
set_option maxHeartbeats 2000000 in
theorem next_ok {w : World} {r : Nat} {v : Value} {bs : List UInt8} {p : Nat} (h : IsRd w r v p) (hb : Bts w v bs) (hp : p < bs.length) (hbig : bs.length ≤ 1000000000) (hr : ∀ b off n cap, v = .slice (some ⟨b, off, none⟩) n cap → b ≠ r) :
    Calls Try.prog 184 #[.pointer (some ⟨r, 0, none⟩)] w fun e w' => e = .returned (.int .u8 bs[p].toNat) ∧ IsRd w' r v (p + 1) ∧ Keeps (fun b => b = r) w w' := by
  obtain ⟨a, cap, rfl, hc, hcell⟩ := hb
  obtain ⟨b, off, rfl, hbl, hcell⟩ := hcell (fun e => by subst e; simp at hp)
  have hbr := hr _ _ _ _ rfl
  obtain ⟨c0, c1, f0, f1⟩ := h.cells
  have q0 := hcell p hp
  obtain ⟨x, hx⟩ : ∃ x, bs[p] = x := ⟨_, rfl⟩
  rw [hx] at q0 ⊢
  obtain ⟨n, hn⟩ : ∃ n, bs.length = n := ⟨_, rfl⟩
  rw [hn] at hp hc hbig c0 ⊢ h
  have pz : (0 : Int) ≤ p := by omega
  have pn : (p : Int) < n := by omega
  have pne : ¬ (p : Int) = n := by omega
  have pne2 : ¬ p = n := by omega
  clear hcell hx hn hr
  go_enter Try.func184, Try.ntmps184
  go_wp2_with fail
  go_quiet (fail)
  go_wp2_with fail
  refine name_world ?_
  intro w2 hw2
  have h2 : IsRd w2 r (.slice (some ⟨b, off, none⟩) n cap) (p + 1) := by
    subst hw2
    have := (IsRd.mk (w := w.drewN nq) h.hp).move (p + 1)
    simpa using this
  have k2 : Keeps (fun b => b = r) w w2 := by
    subst hw2
    exact (((Keeps.refl (fun b => b = r) w).drewN nq)).setCell (fun _ => rfl) _
  obtain ⟨e0, e1, _, _⟩ := h2.cells
  have q2 := (k2.cell (p := ⟨b, off + p, none⟩) hbl hbr).trans q0
  clear hw2 c0 c1 q0 f0 f1 h
  have w1 : IntKind.i64.wrap (((p + 1 : Nat) : Int) - 1) = (p : Int) := by rw [w64 (by omega)]; omega
  have w2' : IntKind.i64.wrap (p : Int) = (p : Int) := w64 (by omega)
  go_quiet (fail)
  go_wp2_with fail
  go_ret
  exact ⟨rfl, ⟨h2.hp⟩, k2.drewN nq⟩

theorem rdU_cons (x : UInt8) (l : List UInt8) (i acc pos : Nat) : rdU (x :: l) i acc pos = if (x.toNat = 0 ∧ 0 < i) ∨ (i = 9 ∧ x.toNat ≠ 1) then (0, pos, 3) else if x.toNat < 128 then (acc + x.toNat % 128 * 2 ^ (7 * i), pos + 1, 0) else rdU l (i + 1) (acc + x.toNat % 128 * 2 ^ (7 * i)) (pos + 1) := rfl

theorem and127 {y : Nat} (h : y < 256) : bits BinOp.and IntKind.u8 (y : Int) 127 = ((y % 128 : Nat) : Int) := by
  rw [u8_and _ _ (by omega) (by omega) (by omega) (by omega)]
  simp only [Int.toNat_natCast]
  rw [show (127 : Int).toNat = 127 from rfl, nat_mask7]

theorem val64 {i y acc : Nat} (hi : i ≤ 9) (hy : y < 256) (ha : acc < 2 ^ (7 * i)) (hs : y % 128 * 2 ^ (7 * i) < 18446744073709551616) :
    bits BinOp.or IntKind.u64 (acc : Int) (IntKind.u64.wrap (IntKind.u64.wrap (bits BinOp.and IntKind.u8 (y : Int) 127) * 2 ^ (7 * i))) = ((acc + y % 128 * 2 ^ (7 * i) : Nat) : Int) := by
  have wr : ∀ n : Nat, n < 18446744073709551616 → IntKind.u64.wrap (n : Int) = n := fun n hn => by simp [IntKind.wrap, IntKind.bits, IntKind.signed]; omega
  have hp : (2 : Nat) ^ (7 * i) ≤ 2 ^ 63 := Nat.pow_le_pow_right (by omega) (by omega)
  have h63 : (2 : Nat) ^ 63 = 9223372036854775808 := rfl
  have e : (((y % 128 : Nat) : Int) * 2 ^ (7 * i)) = ((y % 128 * 2 ^ (7 * i) : Nat) : Int) := by rw [Int.natCast_mul, Int.natCast_pow]; rfl
  rw [and127 hy, wr _ (by omega), e, wr _ hs, u64_or _ _ (by omega) (by omega) (by omega) (by omega)]
  simp only [Int.toNat_natCast]
  rw [Nat.or_comm, nat_join (7 * i) _ _ (Nat.mul_mod_left _ _) ha, Nat.add_comm]

/-- What number gives: R what was read. -/
def NumP (w : World) (r : Nat) (v : Value) (R : Nat × Nat × Int) (e : Ending) (w' : World) : Prop :=
  Keeps (fun b => b = r) w w' ∧ ((R.2.2 = 0 ∧ e = .returned (.int .u64 R.1) ∧ IsRd w' r v R.2.1) ∨ (R.2.2 ≠ 0 ∧ e = .panicked [flt R.2.1 R.2.2]))

set_option maxRecDepth 100000 in
set_option maxHeartbeats 4000000 in
theorem number_c {w : World} {r : Nat} {v : Value} {bs : List UInt8} {p : Nat} (h : IsRd w r v p) (hb : Bts w v bs) (hp : p ≤ bs.length) (hbig : bs.length ≤ 1000000000) (hr : ∀ b off n cap, v = .slice (some ⟨b, off, none⟩) n cap → b ≠ r) :
    Calls Try.prog 157 #[.pointer (some ⟨r, 0, none⟩)] w (NumP w r v (rdU (bs.drop p) 0 0 p)) := by
  obtain ⟨R, hRe⟩ : ∃ R, rdU (bs.drop p) 0 0 p = R := ⟨_, rfl⟩
  rw [hRe]
  go_enter Try.func157, Try.ntmps157
  go_wp2_with fail
  go_loopw [3, 4] (fun nv iv wr => ∃ (i acc q : Nat), nv = .int .u64 acc ∧ iv = .int .i64 i ∧ i ≤ 9 ∧ acc < 2 ^ (7 * i) ∧ q ≤ bs.length ∧ R = rdU (bs.drop q) i acc q ∧ IsRd wr r v q ∧ Keeps (fun b => b = r) w wr) (fun _ iv _ => 10 - (intOf iv).toNat)
  case atStart => exact ⟨0, 0, p, rfl, rfl, by omega, by decide, hp, hRe.symm, h, Keeps.refl _ _⟩
  case round =>
    obtain ⟨i, acc, q, rfl, rfl, hi, hacc, hq, hrd, hR, hK⟩ := hrel
    have iz : (0 : Int) ≤ i := by omega
    have hbr : Bts wr v bs := by
      obtain ⟨a, cap, rfl, hc, h2⟩ := hb
      refine ⟨a, cap, rfl, hc, fun hne => ?_⟩
      obtain ⟨b, off, rfl, hbl, h3⟩ := h2 hne
      exact ⟨b, off, rfl, Nat.lt_of_lt_of_le hbl hK.size, fun j hj => (hK.cell (p := ⟨b, off + j, none⟩) hbl (hr _ _ _ _ rfl)).trans (h3 j hj)⟩
    clear hRe
    rcases Nat.lt_or_ge q bs.length with hql | hql
    · have hn := next_ok hR hbr hql hbig hr
      obtain ⟨x, hx⟩ : ∃ x, bs[q] = x := ⟨_, rfl⟩
      have hdr : bs.drop q = x :: bs.drop (q + 1) := by rw [List.drop_eq_getElem_cons hql, hx]
      rw [hx] at hn
      rw [hdr, rdU_cons] at hrd
      obtain ⟨y, hy⟩ : ∃ y, x.toNat = y := ⟨_, rfl⟩
      have hy8 : y < 256 := by rw [← hy]; exact x.toNat_lt
      rw [hy] at hn hrd
      clear hx hdr hy hbr hR
      have yz : (0 : Int) ≤ y := by omega
      by_cases i9 : i = 9
      · subst i9
        by_cases y1 : y = 1
        · subst y1
          rw [if_neg (by omega), if_pos (by omega)] at hrd
          have hsm : 1 % 128 * 2 ^ (7 * 9) < 18446744073709551616 := by decide
          go_wp2_with fail
          refine hn.mono ?_
          rintro e w2 ⟨rfl, hR2, k2⟩
          go_wp2_with fail
          go_ret
          rw [hrd]
          have hval := val64 (i := 9) (y := 1) (acc := acc) (by omega) (by omega) hacc hsm
          refine ⟨hK.trans k2 (fun _ _ x => x), .inl ⟨rfl, ?_, hR2⟩⟩
          first
            | exact congrArg (fun z => Ending.returned (Value.int .u64 z)) hval
            | exact congrArg (fun z => Ending.returned (Value.int .u64 z)) (by simpa using hval)
        · rw [if_pos (by omega)] at hrd
          by_cases y0 : y = 0
          · subst y0
            go_wp2_with fail
            refine hn.mono ?_
            rintro e w2 ⟨rfl, hR2, k2⟩
            obtain ⟨c0, c1, _, _⟩ := hR2.cells
            have q1 : IntKind.i64.wrap (((q + 1 : Nat) : Int) - 1) = (q : Int) := by rw [w64 (by omega)]; omega
            have q2 : IntKind.i64.wrap (q : Int) = (q : Int) := w64 (by omega)
            go_wp2_with fail
            refine (fail_c _ _ _).mono ?_
            rintro e w3 ⟨rfl, rfl⟩
            go_wp2_with fail
            rw [hrd]
            exact ⟨rfl, hK.trans k2 (fun _ _ x => x), .inr ⟨by simp, rfl⟩⟩
          · have y0' : ¬ (y : Int) = 0 := by omega
            have y1' : ¬ (y : Int) = 1 := by omega
            go_wp2_with fail
            refine hn.mono ?_
            rintro e w2 ⟨rfl, hR2, k2⟩
            obtain ⟨c0, c1, _, _⟩ := hR2.cells
            have q1 : IntKind.i64.wrap (((q + 1 : Nat) : Int) - 1) = (q : Int) := by rw [w64 (by omega)]; omega
            have q2 : IntKind.i64.wrap (q : Int) = (q : Int) := w64 (by omega)
            go_wp2_with fail
            refine (fail_c _ _ _).mono ?_
            rintro e w3 ⟨rfl, rfl⟩
            go_wp2_with fail
            rw [hrd]
            exact ⟨rfl, hK.trans k2 (fun _ _ x => x), .inr ⟨by simp, rfl⟩⟩
      · have i9' : ¬ (i : Int) = 9 := by omega
        have hsm : ∀ m, m < 128 → m * 2 ^ (7 * i) < 18446744073709551616 := fun m hm => by
          have h1 : (2 : Nat) ^ (7 * i) ≤ 2 ^ 56 := Nat.pow_le_pow_right (by omega) (by omega)
          have h2 : m * 2 ^ (7 * i) ≤ m * 2 ^ 56 := Nat.mul_le_mul_left _ h1
          have h3 : (2 : Nat) ^ 56 = 72057594037927936 := rfl
          rw [h3] at h2
          omega
        replace hsm := hsm (y % 128) (Nat.mod_lt _ (by omega))
        by_cases y0 : y = 0
        · subst y0
          by_cases i0 : i = 0
          · subst i0
            rw [if_neg (by omega), if_pos (by omega)] at hrd
            go_wp2_with fail
            refine hn.mono ?_
            rintro e w2 ⟨rfl, hR2, k2⟩
            go_wp2_with fail
            go_ret
            rw [hrd]
            have hval := val64 (i := 0) (y := 0) (acc := acc) (by omega) (by omega) hacc hsm
            refine ⟨hK.trans k2 (fun _ _ x => x), .inl ⟨rfl, ?_, hR2⟩⟩
            first
              | exact congrArg (fun z => Ending.returned (Value.int .u64 z)) hval
              | exact congrArg (fun z => Ending.returned (Value.int .u64 z)) (by simpa using hval)
          · rw [if_pos (by omega)] at hrd
            have i0' : (0 : Int) < i := by omega
            go_wp2_with fail
            refine hn.mono ?_
            rintro e w2 ⟨rfl, hR2, k2⟩
            obtain ⟨c0, c1, _, _⟩ := hR2.cells
            have q1 : IntKind.i64.wrap (((q + 1 : Nat) : Int) - 1) = (q : Int) := by rw [w64 (by omega)]; omega
            have q2 : IntKind.i64.wrap (q : Int) = (q : Int) := w64 (by omega)
            go_wp2_with fail
            refine (fail_c _ _ _).mono ?_
            rintro e w3 ⟨rfl, rfl⟩
            go_wp2_with fail
            rw [hrd]
            exact ⟨rfl, hK.trans k2 (fun _ _ x => x), .inr ⟨by simp, rfl⟩⟩
        · have y0' : ¬ (y : Int) = 0 := by omega
          rw [if_neg (by omega)] at hrd
          by_cases h128 : (y : Int) < 128
          · rw [if_pos (by omega)] at hrd
            go_wp2_with fail
            refine hn.mono ?_
            rintro e w2 ⟨rfl, hR2, k2⟩
            go_wp2_with fail
            go_ret
            rw [hrd]
            have hval := val64 (i := i) (y := y) (acc := acc) (by omega) (by omega) hacc hsm
            refine ⟨hK.trans k2 (fun _ _ x => x), .inl ⟨rfl, ?_, hR2⟩⟩
            first
              | exact congrArg (fun z => Ending.returned (Value.int .u64 z)) hval
              | exact congrArg (fun z => Ending.returned (Value.int .u64 z)) (by simpa using hval)
          · rw [if_neg (by omega)] at hrd
            have hval := val64 (i := i) (y := y) (acc := acc) (by omega) (by omega) hacc hsm
            have hac2 : acc + y % 128 * 2 ^ (7 * i) < 2 ^ (7 * (i + 1)) := by
              have hpw : 2 ^ (7 * (i + 1)) = 128 * 2 ^ (7 * i) := by
                rw [show 7 * (i + 1) = 7 * i + 7 by omega, Nat.pow_add, Nat.mul_comm]
              rw [hpw]
              have : y % 128 * 2 ^ (7 * i) ≤ 127 * 2 ^ (7 * i) := Nat.mul_le_mul_right _ (by omega)
              omega
            have hs3 : Hid (acc + y % 128 * 2 ^ (7 * i) < 2 ^ (7 * (i + 1))) := hac2
            clear hsm hac2 hacc
            go_wp2_with fail
            refine hn.mono ?_
            rintro e w2 ⟨rfl, hR2, k2⟩
            clear hn
            go_wp2_with fail
            go_roundw
            case rel => exact ⟨i + 1, _, q + 1, rfl, by go_num, by omega, hs3.out, by omega, hrd, hR2, hK.trans k2 (fun _ _ x => x)⟩
            case measure => simp [intOf]; omega
    · have hn := next_short hR hbr (by omega)
      have hd : bs.drop q = [] := List.drop_eq_nil_of_le hql
      rw [hd] at hrd
      go_wp2_with fail
      refine hn.mono ?_
      rintro e w2 ⟨rfl, k2⟩
      go_wp2_with fail
      rw [hrd]
      exact ⟨rfl, hK.trans k2 (fun _ _ x => x.elim), .inr ⟨by simp [rdU], rfl⟩⟩

set_option maxRecDepth 100000 in
set_option maxHeartbeats 2000000 in
theorem number_c0 {w : World} {r : Nat} {a : Option Addr} {cap : Nat} (h : IsRd w r (.slice a ([] : List UInt8).length cap) 0) (hc : ([] : List UInt8).length ≤ cap) :
    Calls Try.prog 157 #[.pointer (some ⟨r, 0, none⟩)] w fun e w' => Keeps NoBlk w w' ∧ e = .panicked [flt 0 4] := by
  have hn := next_short h ⟨a, cap, rfl, hc, fun e => absurd rfl e⟩ rfl
  go_enter Try.func157, Try.ntmps157
  go_wp2_with fail
  go_loopw [3, 4] (fun nv iv wr => nv = .int .u64 0 ∧ iv = .int .i64 0 ∧ wr = w) (fun _ _ _ => 0)
  case atStart => exact ⟨rfl, rfl, rfl⟩
  case round =>
    obtain ⟨rfl, rfl, rfl⟩ := hrel
    go_wp2_with fail
    refine hn.mono ?_
    rintro e w2 ⟨rfl, k2⟩
    go_wp2_with fail
    exact ⟨rfl, k2, rfl⟩

end Go.Proofs.Ytofdcmbjcpfabaa
