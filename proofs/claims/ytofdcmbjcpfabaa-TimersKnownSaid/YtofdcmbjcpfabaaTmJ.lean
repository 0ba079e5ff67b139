/- Tables of timers: Open. -/
import Derived.Test.YtofdcmbjcpfabaaTmI
namespace Go.Proofs.Ytofdcmbjcpfabaa
open Go.RowKit Go.Maps Go.MapKept Go.ChangeMaps
attribute [local go_sem ↓] Go.wp_at_zero Go.wp_at_succ

/-- The timers that are left to be read, and what is behind them. -/
def rdAll (bs : List UInt8) : Nat → Nat → Int → List Tm → Option (List Tm) × Nat × Int
  | 0, p, _, vs => if p < bs.length then (none, p, 3) else (some vs, p, 0)
  | k + 1, p, last, vs =>
    if (rdTm bs p).2.2 ≠ 0 then (none, (rdTm bs p).2.1, (rdTm bs p).2.2)
    else if (rdTm bs p).1.due < last then (none, p, 3)
    else if vs.any (fun u => decide (u.owner = (rdTm bs p).1.owner ∧ u.id = (rdTm bs p).1.id)) then (none, p, 6)
    else rdAll bs k (rdTm bs p).2.1 (rdTm bs p).1.due (vs ++ [(rdTm bs p).1])

/-- What bytes say as a table. -/
def rdOpen (bs : List UInt8) : Option (List Tm) × Nat × Int :=
  if (rdU bs 0 0 0).2.2 ≠ 0 then (none, (rdU bs 0 0 0).2.1, (rdU bs 0 0 0).2.2)
  else if 4096 < (rdU bs 0 0 0).1 then (none, 0, 2)
  else rdAll bs (rdU bs 0 0 0).1 (rdU bs 0 0 0).2.1 (-9223372036854775808) []

theorem rdTm_pos (bs : List UInt8) {p : Nat} (hp : p ≤ bs.length) : (rdTm bs p).2.1 ≤ bs.length := by
  have h1 := (rdU_pos (bs.drop p) 0 0 0).1
  rw [List.length_drop] at h1
  unfold rdTm
  simp only
  split
  · simp only; omega
  · have h2 := rdT_pos (bs.drop (p + (rdU (bs.drop p) 0 0 0).2.1))
    rw [List.length_drop] at h2
    split
    · simp only; omega
    · have h3 := (rdU_pos (bs.drop (p + (rdU (bs.drop p) 0 0 0).2.1 + (rdT (bs.drop (p + (rdU (bs.drop p) 0 0 0).2.1)) 0).2.1)) 0 0 0).1
      rw [List.length_drop] at h3
      split
      · simp only; omega
      · simp only; omega

theorem rdT_len (l : List UInt8) : (rdT l 0).1.length ≤ l.length := by
  have hT : rdT l 0 = if (rdU l 0 0 0).2.2 ≠ 0 then ([], (rdU l 0 0 0).2.1, (rdU l 0 0 0).2.2) else if 0 + l.length - (rdU l 0 0 0).2.1 < (rdU l 0 0 0).1 then ([], 0 + l.length, 4) else ((l.drop ((rdU l 0 0 0).2.1 - 0)).take (rdU l 0 0 0).1, (rdU l 0 0 0).2.1 + (rdU l 0 0 0).1, 0) := rfl
  rw [hT]
  split
  · simp
  · split
    · simp
    · simp only [List.length_take, List.length_drop]; omega

theorem unzig_bd {m : Nat} (h : m < 18446744073709551616) : -9223372036854775808 ≤ unzig m ∧ unzig m ≤ 9223372036854775807 := by
  unfold unzig
  split <;> omega

theorem ofB_size (l : List UInt8) : (ofB l).size = l.length := by
  show l.toArray.size = _
  simp

theorem rdTm_fine (bs : List UInt8) (p : Nat) (hb : bs.length ≤ 20000) : Fine (rdTm bs p).1 := by
  have h1 := unzig_bd (rdU_int (bs.drop p))
  have h2 := rdT_len (bs.drop (p + (rdU (bs.drop p) 0 0 0).2.1))
  rw [List.length_drop] at h2
  have hz : Fine ⟨0, ⟨#[]⟩, 0⟩ := ⟨by decide, by decide, by decide, by decide, Nat.zero_le _⟩
  unfold rdTm
  simp only
  split
  · exact hz
  · split
    · exact hz
    · split
      · exact ⟨h1.1, h1.2, by simp only; omega, by simp only; omega, by simp only [ofB_size]; omega⟩
      · exact ⟨h1.1, h1.2, by simp only; omega, by simp only; omega, by simp only [ofB_size]; omega⟩

/-- What Open makes. -/
def OpenP (w : World) (R : Option (List Tm) × Nat × Int) (e : Ending) (w' : World) : Prop :=
  Keeps NoBlk w w' ∧ ((R.1 = none ∧ e = .returned (.tuple #[.pointer none, .int .i64 R.2.1, .int .i64 R.2.2])) ∨
    ∃ vs p S L next, R.1 = some vs ∧ R.2.2 = 0 ∧ e = .returned (.tuple #[.pointer (some ⟨p, 0, none⟩), .int .i64 R.2.1, .int .i64 R.2.2]) ∧ IsTable w' p S L next ∧ View L vs ∧ L.length ≤ 4096 ∧ next ≤ 4096 ∧ (∀ t ∈ vs, Fine t) ∧ ∀ k, S k → w.heap.size ≤ k)


set_option maxRecDepth 100000 in
set_option maxHeartbeats 8000000 in
theorem openTable_c {w : World} {v : Value} {bs : List UInt8} (hb : Bts w v bs) (hbig : bs.length ≤ 20000) :
    Calls Try.prog 67 #[v] w (OpenP w (rdOpen bs)) := by
  have hrd := readUint_c hb (by omega)
  have hpos := (rdU_pos bs 0 0 0).1
  have hO : rdOpen bs = if (rdU bs 0 0 0).2.2 ≠ 0 then (none, (rdU bs 0 0 0).2.1, (rdU bs 0 0 0).2.2) else if 4096 < (rdU bs 0 0 0).1 then (none, 0, 2) else rdAll bs (rdU bs 0 0 0).1 (rdU bs 0 0 0).2.1 (-9223372036854775808) [] := rfl
  have hempty : bs = [] → (rdU bs 0 0 0).2.2 ≠ 0 := fun e => by subst e; decide
  obtain ⟨N, hN⟩ : ∃ N, rdU bs 0 0 0 = N := ⟨_, rfl⟩
  rw [hN] at hrd hpos hO hempty
  obtain ⟨n, q, er⟩ := N
  simp only [Nat.zero_add] at hrd hpos hO hempty
  obtain ⟨R, hR⟩ : ∃ R, rdOpen bs = R := ⟨_, rfl⟩
  rw [hR] at hO ⊢
  have hOh : Hid _ := hO
  obtain ⟨a, cap, hv⟩ := hb.form
  subst hv
  clear hN hR hO
  have nz : (0 : Int) ≤ n := by omega
  by_cases he : er = 0
  · subst he
    have hne : bs ≠ [] := fun e => hempty e rfl
    by_cases hbigN : (4096 : Int) < n
    · go_enter Try.func67, Try.ntmps67
      go_wp2_with fail
      refine hrd.mono ?_
      rintro e w1 ⟨rfl, k1⟩
      go_wp2_with fail
      refine bodyPost_ret (v := .tuple #[.pointer none, .int .i64 (0), .int .i64 (2)]) (by simp [results, Try.results67, go_sem]) rfl ?_
      have := hOh.out
      rw [if_neg (by simp), if_pos (by omega)] at this
      rw [this]
      exact ⟨k1, .inl ⟨rfl, rfl⟩⟩
    · have hRR := hOh.out
      rw [if_neg (by simp), if_neg (by omega)] at hRR
      have hbb := hb
      obtain ⟨a', cap', ev, hc, hcell⟩ := hbb
      cases ev
      obtain ⟨b, off, rfl, hbl, hcl⟩ := hcell hne
      have hat : BtsAt w b off cap bs := ⟨hc, hbl, hcl⟩
      obtain ⟨L, hL⟩ : ∃ L, bs.length = L := ⟨_, rfl⟩
      have hone := fun W (k : Keeps NoBlk w W) p hp => one_c (hat.keep k) (by omega) hL p hp
      have hposL : ∀ p, p ≤ L → (rdTm bs p).2.1 ≤ L := fun p hp => by rw [← hL]; exact rdTm_pos bs (by rw [hL]; exact hp)
      have hfin : ∀ p, Fine (rdTm bs p).1 := fun p => rdTm_fine bs p hbig
      have hend : ∀ p last vs, rdAll bs 0 p last vs = if p < L then (none, p, 3) else (some vs, p, 0) := fun p last vs => by rw [← hL]; rfl
      have hstep : ∀ k p last vs, rdAll bs (k + 1) p last vs = if (rdTm bs p).2.2 ≠ 0 then (none, (rdTm bs p).2.1, (rdTm bs p).2.2)
          else if (rdTm bs p).1.due < last then (none, p, 3)
          else if vs.any (fun u => decide (u.owner = (rdTm bs p).1.owner ∧ u.id = (rdTm bs p).1.id)) then (none, p, 6)
          else rdAll bs k (rdTm bs p).2.1 (rdTm bs p).1.due (vs ++ [(rdTm bs p).1]) := fun k p last vs => rfl
      obtain ⟨rd, hrde⟩ : ∃ rd, rdTm bs = rd := ⟨_, rfl⟩
      obtain ⟨ra, hrae⟩ : ∃ ra, rdAll bs = ra := ⟨_, rfl⟩
      rw [hrde] at hone hposL hfin hstep
      rw [hrae] at hend hstep hRR
      rw [hL] at hrd hpos hbig ⊢
      have hqL : q ≤ L := hpos
      have hLb : (L : Int) ≤ 20000 := by omega
      have hn96 : n ≤ 4096 := by omega
      have hRh : Hid (R = ra n q (-9223372036854775808) []) := hRR
      clear hOh hRR hempty hb hcell hcl hat hL hrde hrae hc
      go_enter Try.func67, Try.ntmps67
      go_wp2_with fail
      refine hrd.mono ?_
      rintro e w1 ⟨rfl, k1⟩
      have hnew := newTable_o w1
      go_wp2_with fail
      refine hnew.mono ?_
      rintro e w2 ⟨p, S0, rfl, hT0, m0⟩
      have k2 : Keeps NoBlk w w2 := k1.trans m0.keeps (fun _ _ x => x)
      have hS0 : ∀ k, S0 k → w.heap.size ≤ k := fun k hk => Nat.le_trans k1.size ((m0.foot k hk).resolve_left id)
      clear hnew k1 m0 hrd
      go_wp2_with fail
      go_loopw [6, 9, 29] (fun av lv iv wr => ∃ (k pos : Nat) (last : Int) (S : Nat → Prop) (Lk : List (Thing Tm)) (vs : List Tm), av = .int .i64 pos ∧ lv = .int .i64 last ∧ iv = .int .u64 k ∧ k ≤ n ∧ pos ≤ L ∧ IsTable wr p S Lk k ∧ View Lk vs ∧ vs.length = k ∧ (∀ u ∈ vs, u.due ≤ last ∧ Fine u) ∧ R = ra (n - k) pos last vs ∧ (∀ b, S b → w.heap.size ≤ b) ∧ Keeps NoBlk w wr) (fun _ _ iv _ => n - (intOf iv).toNat)
      case atStart => exact ⟨0, q, _, S0, [], [], rfl, rfl, rfl, Nat.zero_le _, hqL, hT0, View.nil, rfl, (fun u hu => by cases hu), hRh.out, hS0, k2⟩
      case round =>
        clear hT0 hS0 k2 hRh
        obtain ⟨k, pos, last, S, Lk, vs, rfl, rfl, rfl, hkn, hpL, hT, hV, hvk, hdue, hRR, hS, hK⟩ := hrel
        have kz : (0 : Int) ≤ k := by omega
        by_cases hlt : (k : Int) < n
        · have hnk : n - k = (n - (k + 1)) + 1 := by omega
          rw [hnk, hstep] at hRR
          have hon := hone _ hK pos hpL
          have hx1 := hposL pos hpL
          have hx2 := hfin pos
          obtain ⟨X, hX⟩ : ∃ X, rd pos = X := ⟨_, rfl⟩
          rw [hX] at hRR hon hx1 hx2
          obtain ⟨t, p2, e2⟩ := X
          simp only at hRR hx1 hx2
          unfold OneP at hon
          simp only at hon
          obtain ⟨f1, f2, f3, f4, f5⟩ := id hx2
          have hRh : Hid _ := hRR
          have hLk : Lk.length = k := by rw [← hV.len]; exact hvk
          clear hRR hX hnk
          by_cases h2 : e2 = 0
          · subst h2
            have hR2 := hRh.out
            rw [if_neg (by simp)] at hR2
            replace hRh : Hid _ := hR2
            clear hR2
            by_cases hdl : t.due < last
            · have hR2 := hRh.out
              rw [if_pos hdl] at hR2
              clear hRh
              go_wp2_with fail
              refine hon.mono ?_
              rintro e w3 ⟨rfl, k3⟩
              go_wp2_with fail
              refine bodyPost_ret (v := .tuple #[.pointer none, .int .i64 ((pos : Int)), .int .i64 (3)]) (by simp [results, Try.results67, go_sem]) rfl ?_
              rw [hR2]
              exact ⟨(hK.trans k3 (fun _ _ x => x)).alloc _, .inl ⟨rfl, rfl⟩⟩
            · have hR2 := hRh.out
              rw [if_neg hdl] at hR2
              replace hRh : Hid _ := hR2
              clear hR2
              go_wp2_with fail
              refine hon.mono ?_
              rintro e w3 ⟨rfl, k3⟩
              have kA : Keeps NoBlk wr (w3.alloc (.cells #[.int .i64 t.due, .string t.owner, .int .i64 t.id] 53)) := k3.alloc _
              have hset := set_o _ p S Lk k (hT.keep kA (fun _ _ z => z)) t.due t.owner t.id (by unfold maxLen; omega) (WalkArith.wf_i64 (by omega)) (by omega) (by omega)
              have hKA : Keeps NoBlk w (w3.alloc (.cells #[.int .i64 t.due, .string t.owner, .int .i64 t.id] 53)) := hK.trans kA (fun _ _ x => x)
              obtain ⟨C, hC⟩ : ∃ C, w3.heap.size = C := ⟨_, rfl⟩
              have hxb : (w3.alloc (.cells #[.int .i64 t.due, .string t.owner, .int .i64 t.id] 53)).heap[C]? = some (.cells #[.int .i64 t.due, .string t.owner, .int .i64 t.id] 53 (0, 0)) := by rw [← hC]; exact heap_alloc_new _ _
              have hSC : ¬ S C := fun hs => by have := hT.lt C hs; have := k3.size; omega
              go_wp2_with fail
              refine hset.mono ?_
              intro e w4 hp4
              obtain ⟨hb, _⟩ | ⟨_, ⟨y, hy, hyo, hyi⟩, rfl, _, m4⟩ | ⟨_, _, hb, _⟩ | ⟨_, hno, _, rfl, S4, hT4, m4⟩ := hp4
              · omega
              · have hR2 := hRh.out
                rw [if_pos (by rw [List.any_eq_true]; exact ⟨y.v, hV.mem.2 ⟨y, hy, rfl⟩, decide_eq_true ⟨hyo, hyi⟩⟩)] at hR2
                clear hRh hset
                go_wp2_with fail
                refine bodyPost_ret (v := .tuple #[.pointer none, .int .i64 ((pos : Int)), .int .i64 (6)]) (by simp [results, Try.results67, go_sem]) rfl ?_
                rw [hR2]
                exact ⟨hKA.trans m4.keeps (fun b hb hs => by have := hS b hs; omega), .inl ⟨rfl, rfl⟩⟩
              · omega
              · have hR2 := hRh.out
                rw [if_neg (by
                  rw [List.any_eq_true]
                  rintro ⟨u, hu, hd⟩
                  obtain ⟨y, hy, rfl⟩ := hV.mem.1 hu
                  exact hno y hy (of_decide_eq_true hd))] at hR2
                have hV4 := hV.snoc hT.lawful hT.num (t := t) (fun u hu => by have := (hdue u hu).1; omega)
                have hdue4 : ∀ u ∈ vs ++ [t], u.due ≤ t.due ∧ Fine u := fun u hu => by
                  rcases List.mem_append.1 hu with hu | hu
                  · exact ⟨by have := (hdue u hu).1; omega, (hdue u hu).2⟩
                  · rw [List.mem_singleton.1 hu]; exact ⟨Int.le_refl _, hx2⟩
                have hv4 : (vs ++ [t]).length = k + 1 := by simp [hvk]
                have hT4' : IsTable w4 p S4 (⟨t.due, (k : Int), t⟩ :: Lk) ((k + 1 : Nat) : Int) := by
                  have e1 : (((k + 1 : Nat) : Int)) = (k : Int) + 1 := by omega
                  rw [e1]; exact hT4
                have hS4 : ∀ b, S4 b → w.heap.size ≤ b := fun b hb => by
                  rcases m4.foot b hb with e | e
                  · exact hS b e
                  · exact Nat.le_trans hKA.size e
                have hK4 : Keeps NoBlk w w4 := hKA.trans m4.keeps (fun b hb hs => by have := hS b hs; omega)
                have y0 : w4.cell? ⟨C, 0, none⟩ = some (.int .i64 t.due) := by rw [cell_of_row _ _ _ _ _ _ ((m4.keeps.block C (block_lt hxb) hSC).trans hxb)]; rfl
                have hR4 : Hid (R = ra (n - (k + 1)) p2 t.due (vs ++ [t])) := hR2
                clear hR2 hRh hset hon hT hV hdue hxb m4 hT4 hKA kA k3 hK hS hno
                go_wp2_with fail
                go_quiet (fail)
                go_wp2_with fail
                go_roundw
                case rel => exact ⟨k + 1, p2, t.due, S4, _, vs ++ [t], rfl, rfl, by go_num, by omega, hx1, hT4'.keep ((Keeps.refl NoBlk _).drewN nq) (fun _ _ z => z), hV4, hv4, hdue4, hR4.out, hS4, hK4.drewN nq⟩
                case measure => simp [intOf]; omega
          · have hR2 := hRh.out
            rw [if_pos h2] at hR2
            clear hRh
            go_wp2_with fail
            refine hon.mono ?_
            rintro e w3 ⟨rfl, k3⟩
            go_wp2_with fail
            refine bodyPost_ret (v := .tuple #[.pointer none, .int .i64 ((p2 : Int)), .int .i64 (e2)]) (by simp [results, Try.results67, go_sem]) rfl ?_
            rw [hR2]
            exact ⟨(hK.trans k3 (fun _ _ x => x)).alloc _, .inl ⟨rfl, rfl⟩⟩
        · have hkn2 : k = n := by omega
          subst hkn2
          rw [Nat.sub_self, hend] at hRR
          have hLk : Lk.length ≤ 4096 := by rw [← hV.len]; omega
          by_cases hpl : (pos : Int) < L
          · rw [if_pos (by omega)] at hRR
            go_wp2_with fail
            refine bodyPost_ret (v := .tuple #[.pointer none, .int .i64 ((pos : Int)), .int .i64 (3)]) (by simp [results, Try.results67, go_sem]) rfl ?_
            exact ⟨hK, .inl ⟨rfl, rfl⟩⟩
          · rw [if_neg (by omega)] at hRR
            go_wp2_with fail
            refine bodyPost_ret (v := .tuple #[.pointer (some ⟨p, 0, none⟩), .int .i64 ((pos : Int)), .int .i64 (0)]) (by simp [results, Try.results67, go_sem]) rfl ?_
            exact ⟨hK, .inr ⟨vs, p, S, Lk, _, rfl, rfl, rfl, hT, hV, hLk, by omega, fun t ht => (hdue t ht).2, hS⟩⟩
  · go_enter Try.func67, Try.ntmps67
    go_wp2_with fail
    refine hrd.mono ?_
    rintro e w1 ⟨rfl, k1⟩
    go_wp2_with fail
    refine bodyPost_ret (v := .tuple #[.pointer none, .int .i64 ((q : Int)), .int .i64 (er)]) (by simp [results, Try.results67, go_sem]) rfl ?_
    have := hOh.out
    rw [if_pos he] at this
    rw [this]
    exact ⟨k1, .inl ⟨rfl, rfl⟩⟩

end Go.Proofs.Ytofdcmbjcpfabaa
