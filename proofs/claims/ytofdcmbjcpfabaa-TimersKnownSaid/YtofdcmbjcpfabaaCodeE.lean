/- Reading numbers and texts: the contracts. -/
import Derived.Test.YtofdcmbjcpfabaaCodeD
import Derived.Shelf.Abstract
namespace Go.Proofs.Ytofdcmbjcpfabaa
open Go.RowKit Go.Maps Go.MapKept Go.ChangeMaps
attribute [local go_sem ↓] Go.wp_at_zero Go.wp_at_succ

theorem rdU_zero : ∀ (l : List UInt8) (i acc pos : Nat), (rdU l i acc pos).2.2 ≠ 0 → (rdU l i acc pos).1 = 0 := by
  intro l
  induction l with
  | nil => intro i acc pos _; rfl
  | cons c r ih =>
    intro i acc pos
    rw [rdU_cons]
    split
    · intro _; rfl
    · split
      · intro h; exact absurd rfl h
      · exact ih _ _ _

theorem Bts.form {w : World} {v : Value} {bs : List UInt8} (h : Bts w v bs) : ∃ a cap, v = .slice a bs.length cap := by
  obtain ⟨a, cap, rfl, _⟩ := h; exact ⟨a, cap, rfl⟩

theorem Bts.old {w : World} {v : Value} {bs : List UInt8} (h : Bts w v bs) {r : Nat} (hr : w.heap.size ≤ r) (hne : bs ≠ []) : ∀ b off n cap, v = .slice (some ⟨b, off, none⟩) n cap → b ≠ r := by
  obtain ⟨a, cap, rfl, _, h⟩ := h
  obtain ⟨b, off, rfl, hb, _⟩ := h hne
  intro b' off' n cap' e
  cases e
  omega

/-- What a reader is asked to do, and does. -/
theorem uint_do {w : World} {v : Value} {bs : List UInt8} (hb : Bts w v bs) (hbig : bs.length ≤ 1000000000) (W : World) (r : Nat) (hk : Keeps NoBlk w W) (hr : w.heap.size ≤ r) (hR : IsRd W r v 0) :
    Calls Try.prog 157 #[.pointer (some ⟨r, 0, none⟩)] W (DoP W r v (.int .u64 (rdU bs 0 0 0).1) (.int .u64 0) (rdU bs 0 0 0).2.1 (rdU bs 0 0 0).2.2) := by
  have hb2 := hb.keep hk (fun _ _ x => x)
  by_cases hne : bs = []
  · subst hne
    obtain ⟨a, cap, rfl, hc, _⟩ := hb
    refine (number_c0 hR hc).mono ?_
    rintro e w' ⟨k, rfl⟩
    exact ⟨k.of_none, .inr ⟨by decide, rfl, rfl⟩⟩
  · refine (number_c hR hb2 (Nat.zero_le _) hbig (hb.old hr hne)).mono ?_
    rintro e w' ⟨k, h | h⟩
    · exact ⟨k, .inl h⟩
    · refine ⟨k, .inr ⟨h.1, ?_, h.2⟩⟩
      have := rdU_zero bs 0 0 0 h.1
      rw [this]; rfl

set_option maxHeartbeats 1000000 in
theorem readUint_c {w : World} {v : Value} {bs : List UInt8} (hb : Bts w v bs) (hbig : bs.length ≤ 1000000000) :
    Calls Try.prog 122 #[v] w fun e w' => e = .returned (.tuple #[.int .u64 (rdU bs 0 0 0).1, .int .i64 (rdU bs 0 0 0).2.1, .int .i64 (rdU bs 0 0 0).2.2]) ∧ Keeps NoBlk w w' := by
  obtain ⟨a, cap, rfl⟩ := hb.form
  have hrd := readU_c 157 (rdU bs 0 0 0).1 (rdU bs 0 0 0).2.1 (rdU bs 0 0 0).2.2 (enters_of Try.func157 (by kernel_rfl) rfl) (fun W r => uint_do hb hbig W r)
  go_enter Try.func122, Try.ntmps122
  go_wp2_with fail
  refine hrd.mono ?_
  rintro e w1 ⟨rfl, k1⟩
  go_wp2_with fail
  refine bodyPost_ret (v := .tuple #[.int .u64 (rdU bs 0 0 0).1, .int .i64 (rdU bs 0 0 0).2.1, .int .i64 (rdU bs 0 0 0).2.2]) (by simp [results, go_sem, Try.results122]) rfl ?_
  exact ⟨rfl, k1⟩

theorem rdU_int (bs : List UInt8) : (rdU bs 0 0 0).1 < 18446744073709551616 := by
  have := rdU_lt bs 0 0 0 (by omega) (by decide)
  have h : (2 : Nat) ^ 64 = 18446744073709551616 := rfl
  omega

/-- A whole number as one from 0 on, turned back. -/
theorem unzig_val {m : Nat} (hm : m < 18446744073709551616) (X Y : Int) (hX : X = (m / 2 : Nat)) (hY : Y = -((m % 2 : Nat) : Int)) : bits BinOp.xor IntKind.i64 X Y = unzig m := by
  subst hX hY
  have ho : ∀ a : Nat, a < 9223372036854775808 → (BitVec.ofInt 64 (a : Int)).toNat = a := fun a ha => ofInt_u64 a (by omega)
  by_cases h : m % 2 = 1
  · rw [h]
    show IntKind.i64.wrap ((BitVec.ofInt 64 ((m / 2 : Nat) : Int) ^^^ BitVec.ofInt 64 (-1)).toNat : Int) = _
    have h1 : BitVec.ofInt 64 (-1) = BitVec.allOnes 64 := by decide
    rw [h1, BitVec.xor_allOnes, BitVec.toNat_not, ho _ (by omega)]
    unfold unzig
    rw [if_pos h]
    simp [IntKind.wrap, IntKind.bits, IntKind.signed]
    omega
  · have h0 : m % 2 = 0 := by omega
    rw [h0]
    show IntKind.i64.wrap ((BitVec.ofInt 64 ((m / 2 : Nat) : Int) ^^^ BitVec.ofInt 64 0).toNat : Int) = _
    have h1 : BitVec.ofInt 64 0 = 0#64 := by decide
    rw [h1, BitVec.xor_zero, ho _ (by omega)]
    unfold unzig
    rw [if_neg h]
    simp [IntKind.wrap, IntKind.bits, IntKind.signed]
    omega

set_option maxRecDepth 100000 in
set_option maxHeartbeats 2000000 in
theorem int_do {w : World} {v : Value} {bs : List UInt8} (hb : Bts w v bs) (hbig : bs.length ≤ 1000000000) (W : World) (r : Nat) (hk : Keeps NoBlk w W) (hr : w.heap.size ≤ r) (hR : IsRd W r v 0) :
    Calls Try.prog 187 #[.pointer (some ⟨r, 0, none⟩)] W (DoP W r v (.int .i64 (if (rdU bs 0 0 0).2.2 = 0 then unzig (rdU bs 0 0 0).1 else 0)) (.int .i64 0) (rdU bs 0 0 0).2.1 (rdU bs 0 0 0).2.2) := by
  have hd := uint_do hb hbig W r hk hr hR
  have hlt := rdU_int bs
  obtain ⟨R, hRe⟩ : ∃ R, rdU bs 0 0 0 = R := ⟨_, rfl⟩
  rw [hRe] at hd hlt ⊢
  obtain ⟨m, q, er⟩ := R
  simp only at hd hlt ⊢
  obtain ⟨z, hz⟩ : ∃ z, (if er = 0 then unzig m else 0) = z := ⟨_, rfl⟩
  rw [hz]
  have hzh : Hid ((if er = 0 then unzig m else 0) = z) := hz
  clear hRe hz
  have mz : (0 : Int) ≤ m := by omega
  have m64 : (m : Int) < 18446744073709551616 := by omega
  go_enter Try.func187, Try.ntmps187
  go_wp2_with fail
  refine hd.mono ?_
  intro e w1 hp
  obtain ⟨k1, ⟨h0, rfl, h1⟩ | ⟨h0, hz, rfl⟩⟩ := hp
  · go_wp2_with fail
    go_ret
    have hv := hzh.out
    rw [if_pos h0] at hv
    refine ⟨k1, .inl ⟨h0, ?_, h1⟩⟩
    rw [← hv]
    refine congrArg (fun z => Ending.returned (Value.int .i64 z)) ?_
    refine unzig_val hlt _ _ ?_ ?_
    · omega
    · have h1 : bits BinOp.and IntKind.u64 (m : Int) 1 = ((m % 2 : Nat) : Int) := by
        rw [u64_and _ _ (by omega) (by omega) (by omega) (by omega)]
        simp only [Int.toNat_natCast]
        rw [show (1 : Int).toNat = 1 from rfl, nat_mask1]
      rw [h1]
      rcases Nat.mod_two_eq_zero_or_one m with h | h <;> rw [h] <;> decide +kernel
  · have hv := hzh.out
    rw [if_neg h0] at hv
    go_wp2_with fail
    exact ⟨rfl, k1, .inr ⟨h0, by rw [← hv], rfl⟩⟩

set_option maxHeartbeats 1000000 in
theorem readInt_c {w : World} {v : Value} {bs : List UInt8} (hb : Bts w v bs) (hbig : bs.length ≤ 1000000000) :
    Calls Try.prog 158 #[v] w fun e w' => e = .returned (.tuple #[.int .i64 (if (rdU bs 0 0 0).2.2 = 0 then unzig (rdU bs 0 0 0).1 else 0), .int .i64 (rdU bs 0 0 0).2.1, .int .i64 (rdU bs 0 0 0).2.2]) ∧ Keeps NoBlk w w' := by
  obtain ⟨a, cap, rfl⟩ := hb.form
  have hrd := readI_c 187 (if (rdU bs 0 0 0).2.2 = 0 then unzig (rdU bs 0 0 0).1 else 0) (rdU bs 0 0 0).2.1 (rdU bs 0 0 0).2.2 (enters_of Try.func187 (by kernel_rfl) rfl) (fun W r => int_do hb hbig W r)
  obtain ⟨z, hz⟩ : ∃ z, (if (rdU bs 0 0 0).2.2 = 0 then unzig (rdU bs 0 0 0).1 else 0) = z := ⟨_, rfl⟩
  rw [hz] at hrd ⊢
  clear hz
  go_enter Try.func158, Try.ntmps158
  go_wp2_with fail
  refine hrd.mono ?_
  rintro e w1 ⟨rfl, k1⟩
  go_wp2_with fail
  refine bodyPost_ret (v := .tuple #[.int .i64 z, .int .i64 (rdU bs 0 0 0).2.1, .int .i64 (rdU bs 0 0 0).2.2]) (by simp [results, go_sem, Try.results158]) rfl ?_
  exact ⟨rfl, k1⟩

end Go.Proofs.Ytofdcmbjcpfabaa
