/- Tables of timers: one timer read. -/
import Derived.Test.YtofdcmbjcpfabaaTmH
namespace Go.Proofs.Ytofdcmbjcpfabaa
open Go.RowKit Go.Maps Go.MapKept Go.ChangeMaps
attribute [local go_sem ↓] Go.wp_at_zero Go.wp_at_succ

/-- Bytes that lie in block b from off on. -/
structure BtsAt (w : World) (b off cap : Nat) (bs : List UInt8) : Prop where
  cap : bs.length ≤ cap
  lt : b < w.heap.size
  cell : ∀ j (hj : j < bs.length), w.cell? ⟨b, off + j, none⟩ = some (.int .u8 bs[j].toNat)

theorem BtsAt.keep {w w' : World} {b off cap : Nat} {bs : List UInt8} (h : BtsAt w b off cap bs) (k : Keeps NoBlk w w') : BtsAt w' b off cap bs :=
  ⟨h.cap, Nat.lt_of_lt_of_le h.lt k.size, fun j hj => (k.cell (p := ⟨b, off + j, none⟩) h.lt id).trans (h.cell j hj)⟩

theorem BtsAt.drop {w : World} {b off cap : Nat} {bs : List UInt8} (h : BtsAt w b off cap bs) {p : Nat} (hp : p ≤ bs.length) {L : Nat} (hL : bs.length = L) :
    ∃ A : Addr, (if cap = p then some (⟨b, off, none⟩ : Addr) else some ⟨b, off + p, none⟩) = some A ∧ Bts w (.slice (some A) (L - p) (cap - p)) (bs.drop p) := by
  subst hL
  have hc := h.cap
  by_cases hcp : cap = p
  · refine ⟨⟨b, off, none⟩, by simp [hcp], some ⟨b, off, none⟩, cap - p, by simp, by simp; omega, fun hne => absurd (List.drop_eq_nil_of_le (by omega)) hne⟩
  · refine ⟨⟨b, off + p, none⟩, by simp [hcp], some ⟨b, off + p, none⟩, cap - p, by simp, by simp; omega, fun _ => ⟨b, off + p, rfl, h.lt, fun j hj => ?_⟩⟩
    rw [List.length_drop] at hj
    rw [Nat.add_assoc, h.cell (p + j) (by omega)]
    simp

theorem rdT_pos (l : List UInt8) : (rdT l 0).2.1 ≤ l.length := by
  have h := (rdU_pos l 0 0 0).1
  have hT : rdT l 0 = if (rdU l 0 0 0).2.2 ≠ 0 then ([], (rdU l 0 0 0).2.1, (rdU l 0 0 0).2.2) else if 0 + l.length - (rdU l 0 0 0).2.1 < (rdU l 0 0 0).1 then ([], 0 + l.length, 4) else ((l.drop ((rdU l 0 0 0).2.1 - 0)).take (rdU l 0 0 0).1, (rdU l 0 0 0).2.1 + (rdU l 0 0 0).1, 0) := rfl
  rw [hT]
  split
  · simp only; omega
  · split
    · simp only; omega
    · simp only; omega

/-- One timer from a place on: the timer, the place behind it (or of what is wrong), the error. -/
def rdTm (bs : List UInt8) (p : Nat) : Tm × Nat × Int :=
  let D := rdU (bs.drop p) 0 0 0
  if D.2.2 ≠ 0 then (⟨0, ⟨#[]⟩, 0⟩, p + D.2.1, D.2.2)
  else
    let T := rdT (bs.drop (p + D.2.1)) 0
    if T.2.2 ≠ 0 then (⟨0, ⟨#[]⟩, 0⟩, p + D.2.1 + T.2.1, T.2.2)
    else
      let I := rdU (bs.drop (p + D.2.1 + T.2.1)) 0 0 0
      if I.2.2 = 0 ∧ 9223372036854775807 < I.1 then (⟨unzig D.1, ofB T.1, ((I.1 % 9223372036854775808 : Nat) : Int)⟩, p + D.2.1 + T.2.1, 1)
      else (⟨unzig D.1, ofB T.1, ((I.1 % 9223372036854775808 : Nat) : Int)⟩, p + D.2.1 + T.2.1 + I.2.1, I.2.2)

def OneP (w : World) (R : Tm × Nat × Int) (e : Ending) (w' : World) : Prop :=
  e = .returned (.tuple #[.agg #[.int .i64 R.1.due, .string R.1.owner, .int .i64 R.1.id], .int .i64 R.2.1, .int .i64 R.2.2]) ∧ Keeps NoBlk w w'

theorem and63 {m : Nat} (hm : m < 18446744073709551616) : bits BinOp.and IntKind.u64 (m : Int) 9223372036854775807 = ((m % 9223372036854775808 : Nat) : Int) := by
  rw [u64_and _ _ (by omega) (by omega) (by omega) (by omega)]
  simp only [Int.toNat_natCast]
  have := Nat.and_two_pow_sub_one_eq_mod m 63
  rw [show (9223372036854775807 : Int).toNat = 2 ^ 63 - 1 from rfl, this]

set_option maxRecDepth 100000 in
set_option maxHeartbeats 8000000 in
theorem one_c {w : World} {b off cap : Nat} {bs : List UInt8} (hb : BtsAt w b off cap bs) (hbig : bs.length ≤ 1000000) {L : Nat} (hL : bs.length = L) (p : Nat) (hp : p ≤ L) :
    Calls Try.prog 123 #[.slice (some ⟨b, off, none⟩) L cap, .int .i64 p] w (OneP w (rdTm bs p)) := by
  have hT : rdTm bs p = if (rdU (bs.drop p) 0 0 0).2.2 ≠ 0 then (⟨0, ⟨#[]⟩, 0⟩, p + (rdU (bs.drop p) 0 0 0).2.1, (rdU (bs.drop p) 0 0 0).2.2)
    else if (rdT (bs.drop (p + (rdU (bs.drop p) 0 0 0).2.1)) 0).2.2 ≠ 0 then (⟨0, ⟨#[]⟩, 0⟩, p + (rdU (bs.drop p) 0 0 0).2.1 + (rdT (bs.drop (p + (rdU (bs.drop p) 0 0 0).2.1)) 0).2.1, (rdT (bs.drop (p + (rdU (bs.drop p) 0 0 0).2.1)) 0).2.2)
    else if (rdU (bs.drop (p + (rdU (bs.drop p) 0 0 0).2.1 + (rdT (bs.drop (p + (rdU (bs.drop p) 0 0 0).2.1)) 0).2.1)) 0 0 0).2.2 = 0 ∧ 9223372036854775807 < (rdU (bs.drop (p + (rdU (bs.drop p) 0 0 0).2.1 + (rdT (bs.drop (p + (rdU (bs.drop p) 0 0 0).2.1)) 0).2.1)) 0 0 0).1 then (⟨unzig (rdU (bs.drop p) 0 0 0).1, ofB (rdT (bs.drop (p + (rdU (bs.drop p) 0 0 0).2.1)) 0).1, (((rdU (bs.drop (p + (rdU (bs.drop p) 0 0 0).2.1 + (rdT (bs.drop (p + (rdU (bs.drop p) 0 0 0).2.1)) 0).2.1)) 0 0 0).1 % 9223372036854775808 : Nat) : Int)⟩, p + (rdU (bs.drop p) 0 0 0).2.1 + (rdT (bs.drop (p + (rdU (bs.drop p) 0 0 0).2.1)) 0).2.1, 1)
    else (⟨unzig (rdU (bs.drop p) 0 0 0).1, ofB (rdT (bs.drop (p + (rdU (bs.drop p) 0 0 0).2.1)) 0).1, (((rdU (bs.drop (p + (rdU (bs.drop p) 0 0 0).2.1 + (rdT (bs.drop (p + (rdU (bs.drop p) 0 0 0).2.1)) 0).2.1)) 0 0 0).1 % 9223372036854775808 : Nat) : Int)⟩, p + (rdU (bs.drop p) 0 0 0).2.1 + (rdT (bs.drop (p + (rdU (bs.drop p) 0 0 0).2.1)) 0).2.1 + (rdU (bs.drop (p + (rdU (bs.drop p) 0 0 0).2.1 + (rdT (bs.drop (p + (rdU (bs.drop p) 0 0 0).2.1)) 0).2.1)) 0 0 0).2.1, (rdU (bs.drop (p + (rdU (bs.drop p) 0 0 0).2.1 + (rdT (bs.drop (p + (rdU (bs.drop p) 0 0 0).2.1)) 0).2.1)) 0 0 0).2.2) := rfl
  have hLc : L ≤ cap := by rw [← hL]; exact hb.cap
  have hLb : L ≤ 1000000 := by omega
  have hD := (rdU_pos (bs.drop p) 0 0 0).1
  rw [List.length_drop, hL, Nat.zero_add] at hD
  obtain ⟨A1, hA1, hB1⟩ := hb.drop (p := p) (by omega) hL
  have hr1 := fun W (k : Keeps NoBlk w W) => readInt_c (hB1.keep k (fun _ _ x => x)) (by rw [List.length_drop]; omega)
  obtain ⟨D, hDe⟩ : ∃ D, rdU (bs.drop p) 0 0 0 = D := ⟨_, rfl⟩
  rw [hDe] at hT hD hr1
  obtain ⟨m1, q1, e1⟩ := D
  simp only at hT hD hr1
  obtain ⟨t1, ht1⟩ : ∃ t1, p + q1 = t1 := ⟨_, rfl⟩
  rw [ht1] at hT
  have hI := (rdT_pos (bs.drop t1))
  rw [List.length_drop, hL] at hI
  obtain ⟨A2, hA2, hB2⟩ := hb.drop (p := t1) (by omega) hL
  have hr2 := fun W (k : Keeps NoBlk w W) => readText_c (hB2.keep k (fun _ _ x => x)) (by rw [List.length_drop]; omega)
  obtain ⟨T, hTe⟩ : ∃ T, rdT (bs.drop t1) 0 = T := ⟨_, rfl⟩
  rw [hTe] at hT hI hr2
  obtain ⟨l2, q2, e2⟩ := T
  simp only at hT hI hr2
  obtain ⟨t2, ht2⟩ : ∃ t2, t1 + q2 = t2 := ⟨_, rfl⟩
  rw [ht2] at hT
  have hU := (rdU_pos (bs.drop t2) 0 0 0).1
  have hU64 := rdU_int (bs.drop t2)
  rw [List.length_drop, hL, Nat.zero_add] at hU
  obtain ⟨A3, hA3, hB3⟩ := hb.drop (p := t2) (by omega) hL
  have hr3 := fun W (k : Keeps NoBlk w W) => readUint_c (hB3.keep k (fun _ _ x => x)) (by rw [List.length_drop]; omega)
  obtain ⟨I, hIe⟩ : ∃ I, rdU (bs.drop t2) 0 0 0 = I := ⟨_, rfl⟩
  rw [hIe] at hT hU hr3 hU64
  obtain ⟨m3, q3, e3⟩ := I
  simp only at hT hU hr3 hU64
  obtain ⟨t3, ht3⟩ : ∃ t3, t2 + q3 = t3 := ⟨_, rfl⟩
  rw [ht3] at hT
  obtain ⟨S2, hS2⟩ : ∃ S2, ofB l2 = S2 := ⟨_, rfl⟩
  rw [hS2] at hT hr2
  obtain ⟨z1, hz1⟩ : ∃ z1 : Int, (if e1 = 0 then unzig m1 else 0) = z1 := ⟨_, rfl⟩
  rw [hz1] at hr1
  obtain ⟨R, hR⟩ : ∃ R, rdTm bs p = R := ⟨_, rfl⟩
  rw [hR] at hT ⊢
  have hTh : Hid _ := hT
  have hzh : Hid ((if e1 = 0 then unzig m1 else 0) = z1) := hz1
  have b1 : (p : Int) + q1 = t1 := by omega
  have b2 : (t1 : Int) + q2 = t2 := by omega
  have b3 : (t2 : Int) + q3 = t3 := by omega
  have t1z : (0 : Int) ≤ t1 := by omega
  have t2z : (0 : Int) ≤ t2 := by omega
  have t3z : (0 : Int) ≤ t3 := by omega
  have pz : (0 : Int) ≤ p := by omega
  have pL : (p : Int) ≤ L := by omega
  have t1L : (t1 : Int) ≤ L := by omega
  have t2L : (t2 : Int) ≤ L := by omega
  have t3L : (t3 : Int) ≤ L := by omega
  have LC : (L : Int) ≤ cap := by omega
  have LB : (L : Int) ≤ 1000000 := by omega
  have pL' : p ≤ L := by omega
  have t1L' : t1 ≤ L := by omega
  have t2L' : t2 ≤ L := by omega
  have w1 : IntKind.i64.wrap (t1 : Int) = t1 := w64 (by omega)
  have w2 : IntKind.i64.wrap (t2 : Int) = t2 := w64 (by omega)
  have w3 : IntKind.i64.wrap (t3 : Int) = t3 := w64 (by omega)
  obtain ⟨X, hX⟩ : ∃ X, w.heap.size = X := ⟨_, rfl⟩
  clear hT hz1 hR hS2 hIe hTe hDe hB1 hB2 hB3 ht1 ht2 ht3 hD hI hU hb hL
  go_enter Try.func123, Try.ntmps123
  go_wp2_with fail
  refine (hr1 _ ((Keeps.refl _ _).alloc _)).mono ?_
  rintro e wa ⟨rfl, ka⟩
  have k1 : Keeps NoBlk w wa := ((Keeps.refl _ _).alloc _).trans ka (fun _ _ x => x)
  have xb : wa.heap[X]? = some (.cells #[.int .i64 0, .string ⟨#[]⟩, .int .i64 0] 53 (0, 0)) := by
    rw [ka.block X (by simp [← hX]) id, ← hX]; exact (heap_alloc_new _ _).trans (by rfl)
  by_cases h1 : e1 = 0
  · have hz1 := hzh.out
    rw [if_pos h1] at hz1
    subst h1
    have hz1h : Hid (unzig m1 = z1) := hz1
    clear hz1
    go_wp2_with fail
    refine (hr2 _ k1).mono ?_
    rintro e wb ⟨rfl, kb⟩
    have k2 : Keeps NoBlk w wb := k1.trans kb (fun _ _ x => x)
    replace xb := (kb.block X (block_lt xb) id).trans xb
    by_cases h2 : e2 = 0
    · subst h2
      go_wp2_with fail
      refine (hr3 _ k2).mono ?_
      rintro e wc ⟨rfl, kc⟩
      have k3 : Keeps NoBlk w wc := k2.trans kc (fun _ _ x => x)
      replace xb := (kc.block X (block_lt xb) id).trans xb
      obtain ⟨x0, x1, x2, g0, g1, g2⟩ : (wc).cell? ⟨X, 0, none⟩ = some (.int .i64 0) ∧ (wc).cell? ⟨X, 1, none⟩ = some (.string ⟨#[]⟩) ∧ (wc).cell? ⟨X, 2, none⟩ = some (.int .i64 0) ∧ (wc).frozen? ⟨X, 0, none⟩ = false ∧ (wc).frozen? ⟨X, 1, none⟩ = false ∧ (wc).frozen? ⟨X, 2, none⟩ = false := by
        refine ⟨?_, ?_, ?_, frozen_of_row _ _ _ _ _ xb, frozen_of_row _ _ _ _ _ xb, frozen_of_row _ _ _ _ _ xb⟩ <;> (rw [cell_of_row _ _ _ _ _ _ xb]; rfl)
      have ha := and63 hU64
      have hm0 : (0 : Int) ≤ m3 := by omega
      have hmlt : ((m3 % 9223372036854775808 : Nat) : Int) < 9223372036854775808 := by omega
      have hmge : (0 : Int) ≤ ((m3 % 9223372036854775808 : Nat) : Int) := by omega
      obtain ⟨M3, hM3⟩ : ∃ M3 : Int, ((m3 % 9223372036854775808 : Nat) : Int) = M3 := ⟨_, rfl⟩
      rw [hM3] at ha hmlt hmge
      have hMh : Hid (((m3 % 9223372036854775808 : Nat) : Int) = M3) := hM3
      have hMw : IntKind.i64.wrap M3 = M3 := IntWalk.i64_in _ (by omega)
      clear hM3
      by_cases h3 : e3 = 0
      · by_cases h4 : (9223372036854775807 : Int) < m3
        · have hRR : R = (⟨z1, S2, M3⟩, t2, 1) := by
            have := hTh.out
            rw [if_neg (by simp), if_neg (by simp), if_pos ⟨h3, by omega⟩, hMh.out, hz1h.out] at this
            exact this
          subst h3
          go_wp2_with fail
          refine bodyPost_ret (v := .tuple #[.agg #[.int .i64 (z1), .string (S2), .int .i64 (M3)], .int .i64 ((t2 : Int)), .int .i64 (1)]) (by simp [results, Try.results123, go_sem, x0, x1, x2]) rfl ?_
          refine ⟨by rw [hRR], ?_⟩
          exact (((k3).setCell (p := ⟨X, 0, none⟩) (fun h => by have h2 : X < w.heap.size := h; omega) _).setCell (p := ⟨X, 1, none⟩) (fun h => by have h2 : X < w.heap.size := h; omega) _).setCell (p := ⟨X, 2, none⟩) (fun h => by have h2 : X < w.heap.size := h; omega) _
        · have hRR : R = (⟨z1, S2, M3⟩, t3, e3) := by
            have := hTh.out
            rw [if_neg (by simp), if_neg (by simp), if_neg (by omega), hMh.out, hz1h.out] at this
            exact this
          subst h3
          go_wp2_with fail
          refine bodyPost_ret (v := .tuple #[.agg #[.int .i64 (z1), .string (S2), .int .i64 (M3)], .int .i64 ((t3 : Int)), .int .i64 (0)]) (by simp [results, Try.results123, go_sem, x0, x1, x2]) rfl ?_
          refine ⟨by rw [hRR], ?_⟩
          exact (((k3).setCell (p := ⟨X, 0, none⟩) (fun h => by have h2 : X < w.heap.size := h; omega) _).setCell (p := ⟨X, 1, none⟩) (fun h => by have h2 : X < w.heap.size := h; omega) _).setCell (p := ⟨X, 2, none⟩) (fun h => by have h2 : X < w.heap.size := h; omega) _
      · have hRR : R = (⟨z1, S2, M3⟩, t3, e3) := by
          have := hTh.out
          rw [if_neg (by simp), if_neg (by simp), if_neg (by omega), hMh.out, hz1h.out] at this
          exact this
        go_wp2_with fail
        refine bodyPost_ret (v := .tuple #[.agg #[.int .i64 (z1), .string (S2), .int .i64 (M3)], .int .i64 ((t3 : Int)), .int .i64 (e3)]) (by simp [results, Try.results123, go_sem, x0, x1, x2]) rfl ?_
        refine ⟨by rw [hRR], ?_⟩
        exact (((k3).setCell (p := ⟨X, 0, none⟩) (fun h => by have h2 : X < w.heap.size := h; omega) _).setCell (p := ⟨X, 1, none⟩) (fun h => by have h2 : X < w.heap.size := h; omega) _).setCell (p := ⟨X, 2, none⟩) (fun h => by have h2 : X < w.heap.size := h; omega) _
    · have hRR : R = (⟨0, ⟨#[]⟩, 0⟩, t2, e2) := by
        have := hTh.out
        rw [if_neg (by simp), if_pos h2] at this
        exact this
      obtain ⟨x0, x1, x2, g0, g1, g2⟩ : (wb).cell? ⟨X, 0, none⟩ = some (.int .i64 0) ∧ (wb).cell? ⟨X, 1, none⟩ = some (.string ⟨#[]⟩) ∧ (wb).cell? ⟨X, 2, none⟩ = some (.int .i64 0) ∧ (wb).frozen? ⟨X, 0, none⟩ = false ∧ (wb).frozen? ⟨X, 1, none⟩ = false ∧ (wb).frozen? ⟨X, 2, none⟩ = false := by
        refine ⟨?_, ?_, ?_, frozen_of_row _ _ _ _ _ xb, frozen_of_row _ _ _ _ _ xb, frozen_of_row _ _ _ _ _ xb⟩ <;> (rw [cell_of_row _ _ _ _ _ _ xb]; rfl)
      go_wp2_with fail
      refine bodyPost_ret (v := .tuple #[.agg #[.int .i64 (0), .string (⟨#[]⟩), .int .i64 (0)], .int .i64 ((t2 : Int)), .int .i64 (e2)]) (by simp [results, Try.results123, go_sem, x0, x1, x2]) rfl ?_
      refine ⟨by rw [hRR], ?_⟩
      exact (((k2).setCell (p := ⟨X, 0, none⟩) (fun h => by have h2 : X < w.heap.size := h; omega) _).setCell (p := ⟨X, 1, none⟩) (fun h => by have h2 : X < w.heap.size := h; omega) _).setCell (p := ⟨X, 2, none⟩) (fun h => by have h2 : X < w.heap.size := h; omega) _
  · have hRR : R = (⟨0, ⟨#[]⟩, 0⟩, t1, e1) := by
      have := hTh.out
      rw [if_pos h1] at this
      exact this
    obtain ⟨x0, x1, x2, g0, g1, g2⟩ : (wa).cell? ⟨X, 0, none⟩ = some (.int .i64 0) ∧ (wa).cell? ⟨X, 1, none⟩ = some (.string ⟨#[]⟩) ∧ (wa).cell? ⟨X, 2, none⟩ = some (.int .i64 0) ∧ (wa).frozen? ⟨X, 0, none⟩ = false ∧ (wa).frozen? ⟨X, 1, none⟩ = false ∧ (wa).frozen? ⟨X, 2, none⟩ = false := by
      refine ⟨?_, ?_, ?_, frozen_of_row _ _ _ _ _ xb, frozen_of_row _ _ _ _ _ xb, frozen_of_row _ _ _ _ _ xb⟩ <;> (rw [cell_of_row _ _ _ _ _ _ xb]; rfl)
    go_wp2_with fail
    refine bodyPost_ret (v := .tuple #[.agg #[.int .i64 (0), .string (⟨#[]⟩), .int .i64 (0)], .int .i64 ((t1 : Int)), .int .i64 (e1)]) (by simp [results, Try.results123, go_sem, x0, x1, x2]) rfl ?_
    refine ⟨by rw [hRR], ?_⟩
    exact (((k1).setCell (p := ⟨X, 0, none⟩) (fun h => by have h2 : X < w.heap.size := h; omega) _).setCell (p := ⟨X, 1, none⟩) (fun h => by have h2 : X < w.heap.size := h; omega) _).setCell (p := ⟨X, 2, none⟩) (fun h => by have h2 : X < w.heap.size := h; omega) _

end Go.Proofs.Ytofdcmbjcpfabaa
