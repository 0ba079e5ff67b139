/- The bytes of numbers and texts: the walks. -/
import Derived.Test.YtofdcmbjcpfabaaCodeP
import Derived.Test.YtofdcmbjcpfabaaCmp
import Derived.Deep.DrawnRows
import Derived.Laws.BitsAllLaws
import Derived.Lib.AppendStr
namespace Go.Proofs.Ytofdcmbjcpfabaa
open Go.RowKit Go.Maps Go.MapKept Go.ChangeMaps
attribute [local go_sem ↓] Go.wp_at_zero Go.wp_at_succ

def encU (b : UInt8) : List Value := [.int .u8 b.toNat]
theorem encU_len (b : UInt8) : (encU b).length = 1 := rfl
theorem infoU : (Try.prog.info? 5).map (fun i => (i.zero, i.size, i.bytes)) = some (some (.int .u8 0), 1, 1) := by kernel_rfl

/-- v is a slice of the bytes bs. -/
abbrev BytesV (w : World) (v : Value) (bs : List UInt8) : Prop := RowV w 5 1 encU v bs

theorem or128 (m : Nat) : bits BinOp.or IntKind.u8 ((m : Int) % 256) 128 = ((UInt8.ofNat (m % 128 + 128)).toNat : Int) := by
  have h : ∀ x : Fin 256, bits BinOp.or IntKind.u8 (x.val : Int) 128 = ((x.val % 128 + 128 : Nat) : Int) := by decide +kernel
  have := h ⟨m % 256, Nat.mod_lt _ (by omega)⟩
  simp only at this
  rw [ofNat_toNat (by omega), show (m : Int) % 256 = ((m % 256 : Nat) : Int) by omega, this]
  omega

theorem low8 {m : Nat} (h : m < 128) : (m : Int) % 256 = ((UInt8.ofNat m).toNat : Int) := by
  rw [ofNat_toNat (by omega)]; omega

/-- What appending the bytes ys leaves. -/
def AppP (w : World) (v : Value) (ys : List UInt8) (e : Ending) (w' : World) : Prop :=
  ∃ v', e = .returned v' ∧ BytesV w' v' ys ∧ (∀ b, v'.ownBlock = some b → v.ownBlock = some b ∨ w.heap.size ≤ b) ∧ Keeps (fun b => v.ownBlock = some b) w w'

set_option maxRecDepth 100000 in
set_option maxHeartbeats 2000000 in
theorem appendUint_c {w : World} {v : Value} {bs : List UInt8} (h : BytesV w v bs) (hb : bs.length ≤ 1000000000) (n : Nat) (hn : n < 2 ^ 64) :
    Calls Try.prog 150 #[v, .int .u64 n] w (AppP w v (bs ++ uv n)) := by
  obtain ⟨i0, hi, hz0, hz1, hz2⟩ := info_parts infoU
  go_enter Try.func150, Try.ntmps150
  go_wp2_with fail
  go_loopw [0, 1] (fun ov nv wr => ∃ (m k : Nat) (out : List UInt8), nv = .int .u64 m ∧ m < 2 ^ 64 ∧ m < 128 ^ (k + 1) ∧ k + out.length = 9 ∧ uv n = out ++ uvF k m ∧ BytesV wr ov (bs ++ out) ∧ (∀ b, ov.ownBlock = some b → v.ownBlock = some b ∨ w.heap.size ≤ b) ∧ Keeps (fun b => v.ownBlock = some b) w wr) (fun _ nv _ => (intOf nv).toNat)
  case atStart => exact ⟨n, 9, [], rfl, hn, Nat.lt_trans hn (by decide), rfl, rfl, by rw [List.append_nil]; exact h, fun b hb => .inl hb, Keeps.refl _ _⟩
  case round =>
    obtain ⟨m, k, out, rfl, hm64, hm, hk, hu, hrow, hfr, hK⟩ := hrel
    have mz : (0 : Int) ≤ m := by omega
    have m64 : (m : Int) < 18446744073709551616 := by
      have : (2 : Nat) ^ 64 = 18446744073709551616 := rfl
      omega
    obtain ⟨M, hM⟩ : ∃ M, (bs ++ out).length = M := ⟨_, rfl⟩
    have hMb : M ≤ 1000000010 := by rw [← hM, List.length_append]; omega
    obtain ⟨B, hB⟩ : ∃ B, wr.heap.size = B := ⟨_, rfl⟩
    have hoB : ∀ b, u0.ownBlock = some b → b < wr.heap.size := fun b hb => (World.ownsRow.lt hrow b hb).2
    by_cases hlt : (127 : Int) < m
    · have hk1 : 1 ≤ k := by
        rcases Nat.eq_zero_or_pos k with e | e
        · subst e; simp at hm; omega
        · exact e
      obtain ⟨k', rfl⟩ : ∃ k', k = k' + 1 := ⟨k - 1, by omega⟩
      have hu2 : uvF (k' + 1) m = UInt8.ofNat (m % 128 + 128) :: uvF k' (m / 128) := by
        show (if m < 128 then _ else _) = _
        rw [if_neg (by omega)]
      have hb2 := or128 m
      obtain ⟨X, hX⟩ : ∃ X, UInt8.ofNat (m % 128 + 128) = X := ⟨_, rfl⟩
      rw [hX] at hu2 hb2
      have hm2 : m / 128 < 128 ^ (k' + 1) := by
        rw [Nat.pow_succ] at hm
        exact Nat.div_lt_of_lt_mul (by rw [Nat.mul_comm]; exact hm)
      have hu' : Hid (uv n = (out ++ [X]) ++ uvF k' (m / 128)) := by show _ = _; rw [hu, hu2]; simp
      have hm' : Hid (m / 128 < 128 ^ (k' + 1)) := hm2
      have hl' : Hid (k' + (out ++ [X]).length = 9) := by show _ = _; simp; omega
      clear hu hu2 hm hX hm2 hm64
      go_wp2_with (at_builtin; refine wpList_append_lies _ (by rfl) (.tmp 9) (.tmp 13) 112 (by rfl) 0 5 i0 (.int .u8 0) 1 1 Try.underlying112 hi hz0 hz1 hz2 (by rfl) (by decide) u0 M ((bs ++ out).flatMap encU) (by rfl) ?hown ⟨B, 0, none⟩ 1 1 [.int .u8 (X.toNat : Int)] (by rfl) (by rfl) (World.news_of_block (cs := #[.int .u8 (X.toNat : Int)]) (t := 5) (fr := (0, 0)) (by rw [← hB]; exact (heap_alloc_new _ _).trans (by rfl))) (fun u hu => by simp at hu; rcases hu with rfl; rfl) (by decide) ?b63 ?bby (Nat.zero_le _) (B + 1) (by simp [hB]) ?k)
      case hown =>
        have := (hrow.at_block (fun b hb => Below.heap_alloc wr (.cells #[.int .u8 (X.toNat : Int)] 5) b (hoB b hb)) : RowV _ _ _ _ u0 (bs ++ out))
        unfold RowV at this
        rw [hM] at this
        first | exact this | simpa using this
      case b63 => unfold maxLen; omega
      case bby => omega
      case k =>
        intro g4 cap4 w4 hown hgrow hat hlt4
        have k4 : Keeps (fun k => u0.ownBlock = some k) wr w4 := ((Keeps.refl (fun k => u0.ownBlock = some k) wr).alloc _).grown hgrow (fun k e _ => e)
        have hrow4 : BytesV w4 (.slice (some ⟨g4, 0, none⟩) (M + 1) cap4) ((bs ++ out) ++ [X]) := by
          unfold BytesV RowV
          rw [List.length_append, hM, List.flatMap_append]
          have e1 : [X].flatMap encU = [.int .u8 (X.toNat : Int)] := by rfl
          rw [e1]
          simpa using hown
        have hK4 : Keeps (fun b => v.ownBlock = some b) w w4 := hK.trans k4 (fun b hb e => (hfr b e).resolve_right (by omega))
        have hfr4 : ∀ b, (Value.slice (some ⟨g4, 0, none⟩) (M + 1) cap4).ownBlock = some b → v.ownBlock = some b ∨ w.heap.size ≤ b := fun b hb => by
          cases hb
          rcases hat with e | e
          · exact hfr _ e
          · have := hK.size; right; show w.heap.size ≤ g4; omega
        clear hown hgrow hrow k4 hfr hat
        go_wp2_with fail
        go_roundw
        case rel => exact ⟨m / 128, k', out ++ [X], by go_num, by have : (2 : Nat) ^ 64 = 18446744073709551616 := rfl; omega, hm'.out, hl'.out, hu'.out, by rw [← List.append_assoc]; exact hrow4, hfr4, hK4⟩
        case measure => simp [intOf]; omega
    · have hu2 : uvF k m = [UInt8.ofNat m] := by
        cases k with
        | zero => rfl
        | succ k => show (if m < 128 then _ else _) = _; rw [if_pos (by omega)]
      obtain ⟨X, hX⟩ : ∃ X, UInt8.ofNat m = X := ⟨_, rfl⟩
      have hXm : Hid ((X.toNat : Int) = m) := by show _ = _; rw [← hX, ofNat_toNat (by omega)]
      rw [hX] at hu2
      have hu' : Hid (bs ++ uv n = (bs ++ out) ++ [X]) := by show _ = _; rw [hu, hu2]; simp
      clear hu hu2 hm hX hm64
      go_wp2_with (at_builtin; refine wpList_append_lies _ (by rfl) (.tmp 15) (.tmp 18) 112 (by rfl) 0 5 i0 (.int .u8 0) 1 1 Try.underlying112 hi hz0 hz1 hz2 (by rfl) (by decide) u0 M ((bs ++ out).flatMap encU) (by rfl) ?hown ⟨B, 0, none⟩ 1 1 [.int .u8 (m : Int)] (by rfl) (by rfl) (World.news_of_block (cs := #[.int .u8 (m : Int)]) (t := 5) (fr := (0, 0)) (by rw [← hB]; exact (heap_alloc_new _ _).trans (by rfl))) (fun u hu => by simp at hu; rcases hu with rfl; rfl) (by decide) ?b63 ?bby (Nat.zero_le _) (B + 1) (by simp [hB]) ?k)
      case hown =>
        have := (hrow.at_block (fun b hb => Below.heap_alloc wr (.cells #[.int .u8 (m : Int)] 5) b (hoB b hb)) : RowV _ _ _ _ u0 (bs ++ out))
        unfold RowV at this
        rw [hM] at this
        first | exact this | simpa using this
      case b63 => unfold maxLen; omega
      case bby => omega
      case k =>
        intro g4 cap4 w4 hown hgrow hat hlt4
        have k4 : Keeps (fun k => u0.ownBlock = some k) wr w4 := ((Keeps.refl (fun k => u0.ownBlock = some k) wr).alloc _).grown hgrow (fun k e _ => e)
        have hrow4 : BytesV w4 (.slice (some ⟨g4, 0, none⟩) (M + 1) cap4) ((bs ++ out) ++ [X]) := by
          unfold BytesV RowV
          rw [List.length_append, hM, List.flatMap_append]
          have e1 : [X].flatMap encU = [.int .u8 (m : Int)] := by show [Value.int .u8 (X.toNat : Int)] = _; rw [hXm.out]
          rw [e1]
          simpa using hown
        have hK4 : Keeps (fun b => v.ownBlock = some b) w w4 := hK.trans k4 (fun b hb e => (hfr b e).resolve_right (by omega))
        have hfr4 : ∀ b, (Value.slice (some ⟨g4, 0, none⟩) (M + 1) cap4).ownBlock = some b → v.ownBlock = some b ∨ w.heap.size ≤ b := fun b hb => by
          cases hb
          rcases hat with e | e
          · exact hfr _ e
          · have := hK.size; right; show w.heap.size ≤ g4; omega
        clear hown hgrow hrow k4 hfr hat
        go_wp2_with fail
        go_ret
        exact ⟨_, rfl, by rw [hu'.out]; exact hrow4, hfr4, hK4⟩

theorem zig_pos {n : Int} (h0 : 0 ≤ n) (h1 : n ≤ 9223372036854775807) : bits BinOp.xor IntKind.u64 (n * 2) (n / 9223372036854775808) = (zigN n : Nat) := by
  have e : n / 9223372036854775808 = 0 := by omega
  rw [e, u64_xor _ _ (by omega) (by omega) (by omega) (by omega)]
  unfold zigN
  rw [if_pos h0]
  simp
  omega

theorem zig_neg {n : Int} (h0 : -9223372036854775808 ≤ n) (h1 : n < 0) : bits BinOp.xor IntKind.u64 (IntKind.u64.wrap (IntKind.u64.wrap n * 2)) (IntKind.u64.wrap (n / 9223372036854775808)) = (zigN n : Nat) := by
  have e1 : IntKind.u64.wrap (IntKind.u64.wrap n * 2) = 2 * n + 18446744073709551616 := by
    simp [IntKind.wrap, IntKind.bits, IntKind.signed]; omega
  have e2 : n / 9223372036854775808 = -1 := by omega
  have e3 : IntKind.u64.wrap (-1) = 18446744073709551615 := by decide
  rw [e1, e2, e3]
  obtain ⟨x, hx⟩ : ∃ x : Nat, 2 * n + 18446744073709551616 = x := ⟨(2 * n + 18446744073709551616).toNat, by omega⟩
  rw [hx]
  show IntKind.u64.wrap ((BitVec.ofInt 64 (x : Int) ^^^ BitVec.ofInt 64 18446744073709551615).toNat : Int) = _
  have h1 : BitVec.ofInt 64 18446744073709551615 = BitVec.allOnes 64 := by decide
  rw [h1, BitVec.xor_allOnes, BitVec.toNat_not, ofInt_u64 x (by omega)]
  unfold zigN
  rw [if_neg (by omega)]
  simp [IntKind.wrap, IntKind.bits, IntKind.signed]
  omega

set_option maxHeartbeats 1000000 in
theorem zig_c (w : World) (n : Int) (h0 : -9223372036854775808 ≤ n) (h1 : n ≤ 9223372036854775807) : Calls Try.prog 151 #[.int .i64 n] w fun e w' => e = .returned (.int .u64 (zigN n : Nat)) ∧ w = w' := by
  by_cases hn : 0 ≤ n
  · have hz := zig_pos hn h1
    go_enter Try.func151, Try.ntmps151
    go_wp2
    go_ret
    exact ⟨by rw [← hz]; rfl, rfl⟩
  · have hz := zig_neg h0 (by omega)
    go_enter Try.func151, Try.ntmps151
    go_wp2
    go_ret
    exact ⟨by rw [← hz]; rfl, rfl⟩

theorem zigN_lt {n : Int} (h0 : -9223372036854775808 ≤ n) (h1 : n ≤ 9223372036854775807) : zigN n < 2 ^ 64 := by
  have : (2 : Nat) ^ 64 = 18446744073709551616 := rfl
  rw [this]
  unfold zigN
  split <;> omega

/-- New bytes. -/
def PutP (w : World) (ys : List UInt8) (e : Ending) (w' : World) : Prop :=
  ∃ v', e = .returned v' ∧ BytesV w' v' ys ∧ (∀ b, v'.ownBlock = some b → w.heap.size ≤ b) ∧ Keeps NoBlk w w'

theorem PutP.of {w : World} {ys : List UInt8} {e : Ending} {w' : World} (h : AppP w (.slice none 0 0) ys e w') : PutP w ys e w' := by
  obtain ⟨v', h1, h2, h3, h4⟩ := h
  exact ⟨v', h1, h2, fun b hb => (h3 b hb).resolve_left (fun e => by cases e), h4.mono (fun _ _ e => by cases e)⟩

set_option maxHeartbeats 1000000 in
theorem putUint_c (w : World) (n : Nat) (hn : n < 2 ^ 64) : Calls Try.prog 113 #[.int .u64 n] w (PutP w (uv n)) := by
  have ha := appendUint_c (w := w) (RowV.nil w 5 1 encU) (by simp) n hn
  go_enter Try.func113, Try.ntmps113
  go_wp2_with fail
  refine ha.mono ?_
  intro e w1 h1
  obtain ⟨v', rfl, h2⟩ := PutP.of h1
  go_wp2_with fail
  go_ret
  exact ⟨v', rfl, h2⟩

set_option maxHeartbeats 1000000 in
theorem putInt_c (w : World) (n : Int) (h0 : -9223372036854775808 ≤ n) (h1 : n ≤ 9223372036854775807) : Calls Try.prog 114 #[.int .i64 n] w (PutP w (uv (zigN n))) := by
  have ha := appendUint_c (w := w) (RowV.nil w 5 1 encU) (by simp) (zigN n) (zigN_lt h0 h1)
  have hz := zig_c w n h0 h1
  go_enter Try.func114, Try.ntmps114
  go_wp2_with fail
  refine hz.mono ?_
  rintro e w1 ⟨rfl, rfl⟩
  go_wp2_with fail
  refine ha.mono ?_
  intro e w1 h1
  obtain ⟨v', rfl, h2⟩ := PutP.of h1
  go_wp2_with fail
  go_ret
  exact ⟨v', rfl, h2⟩

theorem strCells_enc (s : ByteArray) : Go.Lib.strCells s = s.data.toList.flatMap encU := by
  unfold Go.Lib.strCells encU
  induction s.data.toList with
  | nil => rfl
  | cons x l ih => simp [ih]

theorem ownsRow_up {w : World} {e : TypeId} {k : Nat} {v : Value} {n : Nat} {xs : List Value} (h : w.ownsRow 0 e k v n xs) {base : Nat} (hb : ∀ b, v.ownBlock = some b → base ≤ b) : w.ownsRow base e k v n xs := by
  refine ⟨h.1, ?_⟩
  rcases h.2 with h2 | ⟨g, cap, cur, rfl, _, r⟩
  · exact .inl h2
  · exact .inr ⟨g, cap, cur, rfl, hb g rfl, r⟩

theorem ownsRow_down {w : World} {e : TypeId} {k : Nat} {v : Value} {n : Nat} {xs : List Value} {base : Nat} (h : w.ownsRow base e k v n xs) : w.ownsRow 0 e k v n xs ∧ ∀ b, v.ownBlock = some b → base ≤ b := by
  rcases h.2 with ⟨h2, h3⟩ | ⟨g, cap, cur, rfl, hb, r⟩
  · exact ⟨⟨h.1, .inl ⟨h2, h3⟩⟩, fun b hb => by rw [h2] at hb; cases hb⟩
  · exact ⟨⟨h.1, .inr ⟨g, cap, cur, rfl, Nat.zero_le _, r⟩⟩, fun b hb2 => by cases hb2; exact hb⟩

set_option maxRecDepth 100000 in
set_option maxHeartbeats 2000000 in
theorem appendText_c (w : World) (s : ByteArray) (hs : s.size ≤ 1000000000) :
    Calls Try.prog 152 #[.slice none 0 0, .string s] w (PutP w (tv s)) := by
  obtain ⟨i0, hi, hz0, hz1, hz2⟩ := info_parts infoU
  have h64 : s.size < 2 ^ 64 := by have : (2 : Nat) ^ 64 = 18446744073709551616 := rfl; omega
  have ha := appendUint_c (w := w) (RowV.nil w 5 1 encU) (by simp) s.size h64
  have hul := (uvF_len 9 s.size).2
  obtain ⟨N, hN⟩ : ∃ N, s.size = N := ⟨_, rfl⟩
  rw [hN] at ha
  have hNh : Hid (s.size = N) := hN
  have n1 : (N : Int) ≤ 1000000000 := by omega
  have n0 : (0 : Int) ≤ N := by omega
  go_enter Try.func152, Try.ntmps152
  go_wp2_with fail
  refine ha.mono ?_
  intro e w1 h1
  obtain ⟨v1, rfl, hr1, hf1, k1⟩ := PutP.of h1
  obtain ⟨M, hM⟩ : ∃ M, (uv N).length = M := ⟨_, rfl⟩
  have hMb : M ≤ 10 := by rw [← hM, ← hN]; exact hul
  have hown : w1.ownsRow w.heap.size 5 1 v1 M ((uv N).flatMap encU) := by
    have := hr1
    rw [List.nil_append] at this
    unfold BytesV RowV at this
    rw [hM] at this
    exact ownsRow_up this hf1
  have hw1 := k1.size
  go_wp2_with (at_builtin; refine Go.Lib.wpList_append_own_string _ rfl (.tmp 9) (.tmp 10) 112 9 rfl w.heap.size 5 i0 Try.underlying112 Try.underlying9 hi hz0 hz1 hz2 v1 M ((uv N).flatMap encU) rfl hown s rfl (by rw [hN]; unfold maxLen; omega) (by rw [hN]; omega) hw1 ?k)
  case k =>
    intro v2 w2 hown2 hgrow _
    have k2 : Keeps (fun k => v1.ownBlock = some k) w1 w2 := (Keeps.refl (fun k => v1.ownBlock = some k) w1).grown hgrow (fun k e _ => e)
    have hd := ownsRow_down hown2
    have hrow2 : BytesV w2 v2 (tv s) := by
      unfold BytesV RowV
      have e1 : (tv s).flatMap encU = (uv N).flatMap encU ++ Go.Lib.strCells s := by
        rw [strCells_enc, ← List.flatMap_append]; unfold tv; rw [hN]
      have e2 : (tv s).length = M + s.size := by
        rw [← hM]; unfold tv; rw [hN]; simp only [List.length_append, Array.length_toList]
        have : s.data.size = N := hN
        omega
      rw [e1, e2, hN]
      exact hd.1
    have hK : Keeps NoBlk w w2 := k1.trans k2 (fun b hb e => by have := hf1 b e; omega)
    have hfr := hd.2
    clear hown hown2 hgrow hr1 hf1 hd
    go_wp2_with fail
    go_ret
    exact ⟨_, rfl, hrow2, hfr, hK⟩

set_option maxHeartbeats 1000000 in
theorem putText_c (w : World) (s : ByteArray) (hs : s.size ≤ 1000000000) : Calls Try.prog 115 #[.string s] w (PutP w (tv s)) := by
  have ha := appendText_c w s hs
  go_enter Try.func115, Try.ntmps115
  go_wp2_with fail
  refine ha.mono ?_
  intro e w1 h1
  obtain ⟨v', rfl, h2⟩ := h1
  go_wp2_with fail
  go_ret
  exact ⟨v', rfl, h2⟩

end Go.Proofs.Ytofdcmbjcpfabaa
