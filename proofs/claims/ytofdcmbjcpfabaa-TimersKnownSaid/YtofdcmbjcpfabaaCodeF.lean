/- Reading texts. -/
import Derived.Test.YtofdcmbjcpfabaaCodeE
import Derived.Laws.BytesString
namespace Go.Proofs.Ytofdcmbjcpfabaa
open Go.RowKit Go.Maps Go.MapKept Go.ChangeMaps
attribute [local go_sem ↓] Go.wp_at_zero Go.wp_at_succ

def ofB (l : List UInt8) : ByteArray := ⟨l.toArray⟩

theorem fold_push : ∀ (l : List UInt8) (s : ByteArray), (l.map (fun b => (b.toNat : Int))).foldl (fun r n => r.push (UInt8.ofNat n.toNat)) s = ⟨(s.data.toList ++ l).toArray⟩ := by
  intro l
  induction l with
  | nil => intro s; simp
  | cons x l ih =>
    intro s
    rw [List.map_cons, List.foldl_cons, ih]
    congr 1
    have e : UInt8.ofNat ((x.toNat : Int)).toNat = x := by simp
    rw [e]
    simp [ByteArray.push]

/-- Bytes as a text. -/
theorem conv_bytes (w : World) (A : Addr) (l : List UInt8) (cap : Nat) (h : ∀ j (hj : j < l.length), w.cell? (A.add j) = some (.int .u8 l[j].toNat)) : (convert 112 9 (.slice (some A) l.length cap)).run Try.prog w = .ok (.string (ofB l)) w := by
  rw [run_convert_bytes_string w _ _ _ _ _ _ Try.underlying112 Try.underlying5 Try.underlying9]
  have hl := run_loadCells_list (P := Try.prog) (w := w) A ((l.map (fun b => (b.toNat : Int))).map (Value.int .u8)) (fun j v hv => by
    rw [List.map_map, List.getElem?_map] at hv
    cases hx : l[j]? with
    | none => rw [hx] at hv; cases hv
    | some x =>
      rw [hx] at hv
      obtain ⟨hj, hx2⟩ := List.getElem?_eq_some_iff.1 hx
      rw [h j hj, hx2]
      exact hv)
  simp only [List.length_map] at hl
  rw [run_bytesToString w A l.length cap (l.map (fun b => (b.toNat : Int))) hl, fold_push]
  rfl

/-- What bytes gives. -/
def TxtP (w : World) (r : Nat) (v : Value) (bs : List UInt8) (p n : Nat) (e : Ending) (w' : World) : Prop :=
  Keeps (fun b => b = r) w w' ∧ ((n ≤ bs.length - p ∧ e = .returned (.string (ofB ((bs.drop p).take n))) ∧ IsRd w' r v (p + n)) ∨ (bs.length - p < n ∧ e = .panicked [flt bs.length 4]))

set_option maxRecDepth 100000 in
set_option maxHeartbeats 4000000 in
theorem bytes_c {w : World} {r : Nat} {v : Value} {bs : List UInt8} {p : Nat} (h : IsRd w r v p) (hb : Bts w v bs) (hp : p ≤ bs.length) (hbig : bs.length ≤ 1000000000) (hr : ∀ b off n cap, v = .slice (some ⟨b, off, none⟩) n cap → b ≠ r) (hne : bs ≠ []) (n : Nat) (hn : n < 18446744073709551616) :
    Calls Try.prog 190 #[.pointer (some ⟨r, 0, none⟩), .int .u64 n] w (TxtP w r v bs p n) := by
  obtain ⟨a, cap, rfl, hc, hcell⟩ := hb
  obtain ⟨b, off, rfl, hbl, hcell⟩ := hcell hne
  have hbr := hr _ _ _ _ rfl
  obtain ⟨c0, c1, f0, f1⟩ := h.cells
  obtain ⟨L, hL⟩ : ∃ L, bs.length = L := ⟨_, rfl⟩
  rw [hL] at c0 hp hc hbig h ⊢
  have hLh : Hid (bs.length = L) := hL
  obtain ⟨d, hd⟩ : ∃ d, L - p = d := ⟨_, rfl⟩
  have i1 : IntKind.i64.wrap ((L : Int) - p) = (d : Int) := by rw [w64 (by omega)]; omega
  have i2 : IntKind.i64.wrap (d : Int) = (d : Int) := w64 (by omega)
  have i3 : (0 : Int) ≤ d := by omega
  have i4 : (d : Int) ≤ 1000000000 := by omega
  have i5 : IntKind.u64.wrap (d : Int) = (d : Int) := by simp [IntKind.wrap, IntKind.bits, IntKind.signed]; omega
  have nz : (0 : Int) ≤ n := by omega
  have pz : (0 : Int) ≤ p := by omega
  by_cases hlt : (d : Int) < n
  · have hfin : Hid (L - p < n) := by show _ < _; omega
    clear hd hp
    go_enter Try.func190, Try.ntmps190
    go_wp2_with fail
    go_quiet (fail)
    go_wp2_with fail
    refine (fail_c _ _ _).mono ?_
    rintro e w2 ⟨rfl, rfl⟩
    go_wp2_with fail
    exact ⟨rfl, (Keeps.refl _ _).drewN nq, .inr ⟨by rw [hLh.out]; exact hfin.out, by rw [hLh.out]⟩⟩
  · have hnd : n ≤ d := by omega
    have hfin : Hid (n ≤ L - p) := by show _ ≤ _; omega
    have i6 : IntKind.i64.wrap (n : Int) = n := w64 (by omega)
    obtain ⟨q, hq⟩ : ∃ q, p + n = q := ⟨_, rfl⟩
    have i7 : (p : Int) + n = q := by omega
    have i8 : IntKind.i64.wrap (q : Int) = q := w64 (by omega)
    have hqL : q ≤ L := by omega
    obtain ⟨A, hA, hAc⟩ : ∃ A : Addr, (if cap = p then some (⟨b, off, none⟩ : Addr) else some ⟨b, off + p, none⟩) = some A ∧ Hid (∀ W : World, (∀ j (hj : j < bs.length), W.cell? ⟨b, off + j, none⟩ = some (.int .u8 bs[j].toNat)) → ∀ j (hj : j < ((bs.drop p).take n).length), W.cell? (A.add j) = some (.int .u8 ((bs.drop p).take n)[j].toNat)) := by
      by_cases hcp : cap = p
      · refine ⟨⟨b, off, none⟩, by simp [hcp], fun W hW j hj => ?_⟩
        rw [List.length_take] at hj
        omega
      · refine ⟨⟨b, off + p, none⟩, by simp [hcp], fun W hW j hj => ?_⟩
        have hj2 : j < n := by rw [List.length_take] at hj; omega
        rw [Addr.add_lit, Nat.add_assoc, hW (p + j) (by rw [hL]; omega)]
        simp
    have hlen : ((bs.drop p).take n).length = n := by rw [List.length_take, List.length_drop, hL]; omega
    have hcv : ∀ W : World, (∀ j (hj : j < bs.length), W.cell? ⟨b, off + j, none⟩ = some (.int .u8 bs[j].toNat)) → (convert 112 9 (.slice (some A) n (cap - p))).run Try.prog W = .ok (.string (ofB ((bs.drop p).take n))) W := fun W hW => by
      have := conv_bytes W A ((bs.drop p).take n) (cap - p) (hAc.out W hW)
      rw [hlen] at this
      exact this
    obtain ⟨T, hT⟩ : ∃ T, ofB ((bs.drop p).take n) = T := ⟨_, rfl⟩
    rw [hT] at hcv
    have hTh : Hid (ofB ((bs.drop p).take n) = T) := hT
    have hlt' : ¬ (d : Int) < n := hlt
    clear hd hlen hAc hT hL
    go_enter Try.func190, Try.ntmps190
    go_wp2_with fail
    go_quiet (fail)
    go_wp2_with fail
    refine name_world ?_
    intro w2 hw2
    have k2 : Keeps (fun b => b = r) w w2 := by
      subst hw2
      exact ((Keeps.refl (fun b => b = r) w).drewN nq).setCell (fun _ => rfl) _
    have h2 : IsRd w2 r (.slice (some ⟨b, off, none⟩) L cap) q := by
      subst hw2
      exact (IsRd.mk (w := w.drewN nq) h.hp).move q
    obtain ⟨e0, e1, _, _⟩ := h2.cells
    have hcv2 := fun m => hcv (w2.drewN m) (fun j hj => (k2.cell (p := ⟨b, off + j, none⟩) hbl hbr).trans (hcell j hj))
    have j1 : IntKind.i64.wrap ((q : Int) - n) = (p : Int) := by rw [w64 (by omega)]; omega
    have j2 : IntKind.i64.wrap (p : Int) = (p : Int) := w64 (by omega)
    have j3 : (p : Int) ≤ q := by omega
    have j4 : (q : Int) ≤ cap := by omega
    have j5 : (0 : Int) ≤ q := by omega
    have j6 : p ≤ q := by omega
    have j7 : q ≤ cap := by omega
    have j8 : q - p = n := by omega
    have hqh : Hid (p + n = q) := hq
    clear hw2 c0 c1 f0 f1 h hcv hcell hq i7
    go_quiet (fail)
    go_wp2_with fail
    go_ret
    refine ⟨k2.drewN _, .inl ⟨by rw [hLh.out]; exact hfin.out, by rw [hTh.out]; rfl, ?_⟩⟩
    rw [hqh.out]
    exact ⟨h2.hp⟩

theorem ofB_nil : ofB [] = ⟨#[]⟩ := rfl

set_option maxRecDepth 100000 in
set_option maxHeartbeats 2000000 in
theorem text_do {w : World} {v : Value} {bs : List UInt8} (hb : Bts w v bs) (hbig : bs.length ≤ 1000000000) (W : World) (r : Nat) (hk : Keeps NoBlk w W) (hr : w.heap.size ≤ r) (hR : IsRd W r v 0) :
    Calls Try.prog 189 #[.pointer (some ⟨r, 0, none⟩)] W (DoP W r v (.string (ofB (rdT bs 0).1)) (.string ⟨#[]⟩) (rdT bs 0).2.1 (rdT bs 0).2.2) := by
  have hd := uint_do hb hbig W r hk hr hR
  have hlt := rdU_int bs
  have hpos := (rdU_pos bs 0 0 0).1
  have hb2 := hb.keep hk (fun _ _ x => x)
  have hempty : bs = [] → (rdU bs 0 0 0).2.2 ≠ 0 := fun e => by subst e; decide
  have hT : rdT bs 0 = if (rdU bs 0 0 0).2.2 ≠ 0 then ([], (rdU bs 0 0 0).2.1, (rdU bs 0 0 0).2.2) else if 0 + bs.length - (rdU bs 0 0 0).2.1 < (rdU bs 0 0 0).1 then ([], 0 + bs.length, 4) else ((bs.drop ((rdU bs 0 0 0).2.1 - 0)).take (rdU bs 0 0 0).1, (rdU bs 0 0 0).2.1 + (rdU bs 0 0 0).1, 0) := rfl
  obtain ⟨R, hRe⟩ : ∃ R, rdU bs 0 0 0 = R := ⟨_, rfl⟩
  rw [hRe] at hd hlt hpos hempty hT
  obtain ⟨m, q, er⟩ := R
  simp only [Nat.zero_add, Nat.sub_zero] at hd hlt hpos hempty hT
  obtain ⟨T, hTe⟩ : ∃ T, rdT bs 0 = T := ⟨_, rfl⟩
  rw [hTe] at hT ⊢
  obtain ⟨t1, t2, t3⟩ := T
  simp only at hT ⊢
  obtain ⟨S, hS⟩ : ∃ S, ofB t1 = S := ⟨_, rfl⟩
  rw [hS]
  have hTh : Hid ((t1, t2, t3) = if er ≠ 0 then ([], q, er) else if bs.length - q < m then ([], bs.length, 4) else ((bs.drop q).take m, q + m, 0)) := hT
  have hSh : Hid (ofB t1 = S) := hS
  clear hRe hTe hT hS
  have mz : (0 : Int) ≤ m := by omega
  go_enter Try.func189, Try.ntmps189
  go_wp2_with fail
  refine hd.mono ?_
  intro e w1 hp
  obtain ⟨k1, ⟨h0, rfl, h1⟩ | ⟨h0, hz, rfl⟩⟩ := hp
  · have hne : bs ≠ [] := fun e => hempty e h0
    have hold := hb.old hr hne
    have hb3 : Bts w1 v bs := by
      obtain ⟨a, cap, rfl, hc, h2⟩ := hb2
      refine ⟨a, cap, rfl, hc, fun hne => ?_⟩
      obtain ⟨b, off, rfl, hbl, h3⟩ := h2 hne
      exact ⟨b, off, rfl, Nat.lt_of_lt_of_le hbl k1.size, fun j hj => (k1.cell (p := ⟨b, off + j, none⟩) hbl (hold _ _ _ _ rfl)).trans (h3 j hj)⟩
    have hby := bytes_c h1 hb3 hpos hbig hold hne m hlt
    have hv := hTh.out
    rw [if_neg (by omega)] at hv
    have hvh : Hid _ := hv
    clear hv
    go_wp2_with fail
    refine hby.mono ?_
    intro e w2 hp2
    obtain ⟨k2, ⟨hn, rfl, h2⟩ | ⟨hn, rfl⟩⟩ := hp2
    · have hv := hvh.out
      rw [if_neg (by omega)] at hv
      cases hv
      go_wp2_with fail
      go_ret
      exact ⟨k1.trans k2 (fun _ _ x => x), .inl ⟨rfl, by rw [← hSh.out]; rfl, h2⟩⟩
    · have hv := hvh.out
      rw [if_pos hn] at hv
      cases hv
      go_wp2_with fail
      exact ⟨rfl, k1.trans k2 (fun _ _ x => x), .inr ⟨by decide, by rw [← hSh.out]; rfl, rfl⟩⟩
  · have hv := hTh.out
    rw [if_pos h0] at hv
    cases hv
    go_wp2_with fail
    exact ⟨rfl, k1, .inr ⟨h0, by rw [← hSh.out]; rfl, rfl⟩⟩

set_option maxHeartbeats 1000000 in
theorem readText_c {w : World} {v : Value} {bs : List UInt8} (hb : Bts w v bs) (hbig : bs.length ≤ 1000000000) :
    Calls Try.prog 159 #[v] w fun e w' => e = .returned (.tuple #[.string (ofB (rdT bs 0).1), .int .i64 (rdT bs 0).2.1, .int .i64 (rdT bs 0).2.2]) ∧ Keeps NoBlk w w' := by
  obtain ⟨a, cap, rfl⟩ := hb.form
  have hrd := readT_c 189 (ofB (rdT bs 0).1) (rdT bs 0).2.1 (rdT bs 0).2.2 (enters_of Try.func189 (by kernel_rfl) rfl) (fun W r => text_do hb hbig W r)
  obtain ⟨z, hz⟩ : ∃ z, ofB (rdT bs 0).1 = z := ⟨_, rfl⟩
  rw [hz] at hrd ⊢
  clear hz
  go_enter Try.func159, Try.ntmps159
  go_wp2_with fail
  refine hrd.mono ?_
  rintro e w1 ⟨rfl, k1⟩
  go_wp2_with fail
  refine bodyPost_ret (v := .tuple #[.string z, .int .i64 (rdT bs 0).2.1, .int .i64 (rdT bs 0).2.2]) (by simp [results, go_sem, Try.results159]) rfl ?_
  exact ⟨rfl, k1⟩

end Go.Proofs.Ytofdcmbjcpfabaa
