/- The bytes of numbers and texts: the plain law. -/
import Derived.Test.YtofdcmbjcpfabaaKit
namespace Go.Proofs.Ytofdcmbjcpfabaa

/-- The bytes of a number, at most k + 1 of them. -/
def uvF : Nat → Nat → List UInt8
  | 0, n => [UInt8.ofNat n]
  | k + 1, n => if n < 128 then [UInt8.ofNat n] else UInt8.ofNat (n % 128 + 128) :: uvF k (n / 128)
def uv (n : Nat) : List UInt8 := uvF 9 n

/-- Reading a number: the number, the place behind it, OK; or 0, the place of what is wrong, the error. -/
def rdU : List UInt8 → Nat → Nat → Nat → Nat × Nat × Int
  | [], _, _, pos => (0, pos, 4)
  | c :: r, i, acc, pos =>
    if (c.toNat = 0 ∧ 0 < i) ∨ (i = 9 ∧ c.toNat ≠ 1) then (0, pos, 3)
    else if c.toNat < 128 then (acc + c.toNat % 128 * 2 ^ (7 * i), pos + 1, 0)
    else rdU r (i + 1) (acc + c.toNat % 128 * 2 ^ (7 * i)) (pos + 1)

theorem ofNat_toNat {n : Nat} (h : n < 256) : (UInt8.ofNat n).toNat = n := by
  rw [UInt8.toNat_ofNat']; omega

theorem rdU_uvF : ∀ (k n i acc pos : Nat) (r : List UInt8), i + k = 9 → n * 2 ^ (7 * i) < 2 ^ 64 → (0 < i → 0 < n) →
    rdU (uvF k n ++ r) i acc pos = (acc + n * 2 ^ (7 * i), pos + (uvF k n).length, 0) := by
  intro k
  induction k with
  | zero =>
    intro n i acc pos r hi hn hp
    obtain rfl : i = 9 := by omega
    obtain rfl : n = 1 := by
      have := hp (by omega)
      have h2 : (2 : Nat) ^ (7 * 9) = 9223372036854775808 := rfl
      have h3 : (2 : Nat) ^ 64 = 18446744073709551616 := rfl
      rw [h2, h3] at hn
      omega
    simp [uvF, rdU]
  | succ k ih =>
    intro n i acc pos r hi hn hp
    by_cases h : n < 128
    · have e : (UInt8.ofNat n).toNat = n := ofNat_toNat (by omega)
      have e1 : uvF (k + 1) n = [UInt8.ofNat n] := by simp [uvF, h]
      rw [e1]
      show rdU (UInt8.ofNat n :: r) i acc pos = _
      unfold rdU
      rw [e, if_neg (by omega), if_pos h, Nat.mod_eq_of_lt h]
      rfl
    · have e : (UInt8.ofNat (n % 128 + 128)).toNat = n % 128 + 128 := ofNat_toNat (by omega)
      have e1 : uvF (k + 1) n = UInt8.ofNat (n % 128 + 128) :: uvF k (n / 128) := by simp [uvF, h]
      have hpw : 2 ^ (7 * (i + 1)) = 128 * 2 ^ (7 * i) := by
        rw [show 7 * (i + 1) = 7 * i + 7 by omega, Nat.pow_add, Nat.mul_comm]
      have hsum : n % 128 * 2 ^ (7 * i) + n / 128 * 2 ^ (7 * (i + 1)) = n * 2 ^ (7 * i) := by
        rw [hpw, ← Nat.mul_assoc, ← Nat.add_mul]
        congr 1
        omega
      rw [e1]
      show rdU (UInt8.ofNat (n % 128 + 128) :: (uvF k (n / 128) ++ r)) i acc pos = _
      unfold rdU
      rw [e, if_neg (by omega), if_neg (by omega), ih (n / 128) (i + 1) _ _ r (by omega) (by omega) (by omega)]
      rw [show (n % 128 + 128) % 128 = n % 128 by omega, Nat.add_assoc, hsum]
      simp only [List.length_cons]
      rw [show pos + 1 + (uvF k (n / 128)).length = pos + ((uvF k (n / 128)).length + 1) by omega]

theorem rdU_uv {n : Nat} (h : n < 2 ^ 64) (pos : Nat) (r : List UInt8) : rdU (uv n ++ r) 0 0 pos = (n, pos + (uv n).length, 0) := by
  have := rdU_uvF 9 n 0 0 pos r rfl (by simpa using h) (fun h => absurd h (Nat.lt_irrefl 0))
  simpa [uv] using this

/-- What a number that was read is less than. -/
theorem rdU_lt : ∀ (l : List UInt8) (i acc pos : Nat), i ≤ 9 → acc < 2 ^ (7 * i) → (rdU l i acc pos).1 < 2 ^ 64 := by
  intro l
  induction l with
  | nil => intro i acc pos _ _; exact Nat.two_pow_pos 64
  | cons c r ih =>
    intro i acc pos hi ha
    have hc : c.toNat < 256 := c.toNat_lt
    have hpw : 2 ^ (7 * (i + 1)) = 128 * 2 ^ (7 * i) := by
      rw [show 7 * (i + 1) = 7 * i + 7 by omega, Nat.pow_add, Nat.mul_comm]
    have hb : acc + c.toNat % 128 * 2 ^ (7 * i) < 2 ^ (7 * (i + 1)) := by
      rw [hpw]
      have : c.toNat % 128 * 2 ^ (7 * i) ≤ 127 * 2 ^ (7 * i) := Nat.mul_le_mul_right _ (by omega)
      omega
    unfold rdU
    by_cases h1 : (c.toNat = 0 ∧ 0 < i) ∨ (i = 9 ∧ c.toNat ≠ 1)
    · rw [if_pos h1]; exact Nat.two_pow_pos 64
    · rw [if_neg h1]
      by_cases h9 : i = 9
      · subst h9
        have hc1 : c.toNat = 1 := by omega
        rw [if_pos (by omega), hc1]
        have h2 : (2 : Nat) ^ (7 * 9) = 9223372036854775808 := rfl
        have h3 : (2 : Nat) ^ 64 = 18446744073709551616 := rfl
        rw [h2] at ha
        show acc + 1 % 128 * 2 ^ (7 * 9) < 2 ^ 64
        rw [h2, h3]
        clear h2 h3 hpw hb h1 hc hc1 ih
        omega
      · by_cases h2 : c.toNat < 128
        · rw [if_pos h2]
          refine Nat.lt_of_lt_of_le hb (Nat.pow_le_pow_right (by omega) (by omega))
        · rw [if_neg h2]
          exact ih (i + 1) _ _ (by omega) hb

/-- Where reading ends. -/
theorem rdU_pos : ∀ (l : List UInt8) (i acc pos : Nat), (rdU l i acc pos).2.1 ≤ pos + l.length ∧ pos ≤ (rdU l i acc pos).2.1 := by
  intro l
  induction l with
  | nil => intro i acc pos; exact ⟨Nat.le_refl _, Nat.le_refl _⟩
  | cons c r ih =>
    intro i acc pos
    unfold rdU
    split
    · simp
    · split
      · simp
      · have := ih (i + 1) (acc + c.toNat % 128 * 2 ^ (7 * i)) (pos + 1)
        simp only [List.length_cons]
        omega

/-- Reading from elsewhere. -/
theorem rdU_shift : ∀ (l : List UInt8) (i acc pos d : Nat), rdU l i acc (pos + d) = ((rdU l i acc pos).1, (rdU l i acc pos).2.1 + d, (rdU l i acc pos).2.2) := by
  intro l
  induction l with
  | nil => intro i acc pos d; rfl
  | cons c r ih =>
    intro i acc pos d
    unfold rdU
    split
    · rfl
    · split
      · simp; omega
      · rw [show pos + d + 1 = pos + 1 + d by omega]; exact ih _ _ _ _

/-- A whole number as one from 0 on, and back. -/
def zigN (n : Int) : Nat := if 0 ≤ n then (2 * n).toNat else (-2 * n - 1).toNat
def unzig (m : Nat) : Int := if m % 2 = 1 then -((m / 2 : Nat) : Int) - 1 else ((m / 2 : Nat) : Int)
theorem unzig_zig (n : Int) : unzig (zigN n) = n := by
  unfold zigN
  split
  · rename_i h
    unfold unzig
    rw [if_neg (by omega)]
    omega
  · rename_i h
    unfold unzig
    rw [if_pos (by omega)]
    omega

/-- The bytes of a text. -/
def tv (s : ByteArray) : List UInt8 := uv s.size ++ s.data.toList

/-- Reading a text: n the number that was read, to the place behind it, l the bytes from there. -/
def rdT (l : List UInt8) (pos : Nat) : List UInt8 × Nat × Int :=
  let r := rdU l 0 0 pos
  if r.2.2 ≠ 0 then ([], r.2.1, r.2.2)
  else if pos + l.length - r.2.1 < r.1 then ([], pos + l.length, 4)
  else ((l.drop (r.2.1 - pos)).take r.1, r.2.1 + r.1, 0)

theorem uvF_len : ∀ (k n : Nat), 0 < (uvF k n).length ∧ (uvF k n).length ≤ k + 1 := by
  intro k
  induction k with
  | zero => intro n; simp [uvF]
  | succ k ih =>
    intro n
    unfold uvF
    split
    · simp
    · have := ih (n / 128)
      simp only [List.length_cons]
      omega

theorem rdT_tv {s : ByteArray} (h : s.size < 2 ^ 64) (pos : Nat) (r : List UInt8) : rdT (tv s ++ r) pos = (s.data.toList, pos + (tv s).length, 0) := by
  unfold rdT tv
  rw [List.append_assoc, rdU_uv h]
  have hs : s.data.toList.length = s.size := by rw [Array.length_toList]; rfl
  rw [if_neg (by simp), if_neg (by simp only [List.length_append, hs]; omega)]
  have : pos + (uv s.size).length - pos = (uv s.size).length := by omega
  show (List.take s.size (List.drop (pos + (uv s.size).length - pos) (uv s.size ++ (s.data.toList ++ r))), pos + (uv s.size).length + s.size, (0 : Int)) = _
  rw [this, List.drop_left, ← hs, List.take_left, List.length_append, Nat.add_assoc]

end Go.Proofs.Ytofdcmbjcpfabaa
