/- HeapTakes: the walk. -/
import Derived.Test.YtofdcmbjcpfabaaLaw03a
import Derived.Test.YtofdcmbjcpfabaaLaw03b
import Derived.OwnWalk
namespace Go.Proofs.Ytofdcmbjcpfabaa
open Go.RowKit Go.Maps Go.MapKept Go.ChangeMaps
attribute [local go_sem ↓] Go.wp_at_zero Go.wp_at_succ

theorem info_bool : (Try.prog.info? 4).map (fun i => (i.zero, i.size, i.bytes)) = some (some (.bool false), 1, 1) := by kernel_rfl

def encB (b : Bool) : List Value := [.bool b]
theorem encB_len : ∀ b, (encB b).length = 1 := fun _ => rfl
theorem flat_false (n : Nat) : (madeCells #[Value.bool false] (n * 1)).toList = (List.replicate n false).flatMap encB := by
  induction n with
  | zero => simp [madeCells]
  | succ n ih =>
    rw [List.replicate_succ']
    rw [List.flatMap_append, ← ih]
    simp [madeCells, encB, Array.range_succ, Nat.mod_one]

theorem RowAt.bool {w : World} {e : TypeId} {g cap : Nat} {tb : List Bool} (h : RowAt w e 1 encB g cap tb) {i : Nat} (hi : i < tb.length) : w.cell? ⟨g, i, none⟩ = some (.bool (tb.getD i false)) := by
  have := h.cell encB_len hi (j := 0) (by omega)
  simp only [Nat.mul_one, Nat.add_zero] at this
  rw [this]
  simp [encB, List.getD, hi]

/-- What the loops of HeapTakes keep of the worlds. -/
structure TkW (w wr : World) (p : Nat) (S : Nat → Prop) (L : List (Thing Int)) (n : Int) (g cap : Nat) (tb : List Bool) : Prop where
  kp : Keeps NoBlk w wr
  hh : IsHeapI wr p S L n
  row : RowAt wr 4 1 encB g cap tb
  ap : ¬ S g
  up : w.heap.size ≤ g
  upS : ∀ k, S k → w.heap.size ≤ k

theorem TkW.move {w wr w' : World} {p : Nat} {S : Nat → Prop} {L L' : List (Thing Int)} {n : Int} {g cap : Nat} {tb : List Bool} (h : TkW w wr p S L n g cap tb) (hh : IsHeapI w' p S L' n) (hm : Moves S wr S w') : TkW w w' p S L' n g cap tb :=
  ⟨h.kp.trans hm.keeps (fun k hk hs => by have := h.upS k hs; omega), hh, h.row.at_block (hm.keeps.block _ h.row.lt h.ap), h.ap, h.up, h.upS⟩

theorem TkW.store {w wr : World} {p : Nat} {S : Nat → Prop} {L : List (Thing Int)} {n : Int} {g cap : Nat} {tb : List Bool} (h : TkW w wr p S L n g cap tb) {i : Nat} (hi : i < tb.length) (b : Bool) : TkW w (wr.setCell ⟨g, i, none⟩ (.bool b)) p S L n g cap (tb.set i b) := by
  have h1 := h.row.set encB_len hi b
  rw [Nat.mul_one] at h1
  exact ⟨h.kp.setCell (p := ⟨g, i, none⟩) (fun x => by have := h.up; simp only at x; omega) _, h.hh.keep ((Keeps.refl (fun k => k = g) wr).setCell (p := ⟨g, i, none⟩) (fun _ => rfl) _) (fun k hk e => h.ap (e ▸ hk)), h1, h.ap, h.up, h.upS⟩

theorem TkW.filled {w w1 w2 : World} {p : Nat} {S : Nat → Prop} {L : List (Thing Int)} {n : Int} {g : Nat} {tb : List Bool} (hh : IsHeapI w1 p S L n) (hm : Moves NoBlk w S w1) (hr : RowAt w2 4 1 encB w1.heap.size g tb) (hg : w1.grownBy w2 none) : TkW w w2 p S L n w1.heap.size g tb := by
  have k1 : Keeps NoBlk w1 w2 := (Keeps.refl NoBlk w1).grown hg (fun _ e => by cases e)
  exact ⟨hm.keeps.trans k1 (fun _ _ x => x), hh.keep k1 (fun _ _ x => x), hr, fun x => by have := hh.lt _ x; omega, hm.keeps.size, fun k hk => (hm.foot k hk).resolve_left id⟩

/-- What the slice of numbers has at k. -/
theorem Ints.at {w : World} {v : Value} {ks : List Int} (h : Ints w v ks) {k : Nat} (hk : k < ks.length) : ∃ b off cap, v = .slice (some ⟨b, off, none⟩) ks.length cap ∧ b < w.heap.size ∧ ∀ j, j < ks.length → w.cell? ⟨b, off + j, none⟩ = some (.int .i64 (ks.getD j 0)) := by
  obtain ⟨a, cap, rfl, h⟩ := h
  obtain ⟨b, off, rfl, h1, h2⟩ := h (fun e => by subst e; simp at hk)
  exact ⟨b, off, cap, rfl, h1, h2⟩

/-- How many things the world has at p. -/
def thingsAt (w : World) (p : Nat) : Nat := match w.cell? ⟨p, 1, none⟩ with | some (.slice _ n _) => n | _ => 0
theorem IsHeapI.count {w : World} {p : Nat} {S : Nat → Prop} {L : List (Thing Int)} {n : Int} (h : IsHeapI w p S L n) : thingsAt w p = L.length := by
  obtain ⟨lv, mb, s, hm, _, hp, _⟩ := h
  obtain ⟨_, c, _⟩ := hm.fields
  obtain ⟨a, cap, rfl⟩ := hm.len
  unfold thingsAt
  rw [c, ← hp.length_eq]

set_option maxRecDepth 100000 in
set_option maxHeartbeats 4000000 in
theorem takes03_c (w : World) (v1 v2 v3 : Value) (ks gone now : List Int) (hv1 : Ints w v1 ks) (hv2 : Ints w v2 gone) (hv3 : Ints w v3 now)
    (hr : ∀ j, j < ks.length → (-9223372036854775808 : Int) ≤ ks.getD j 0) (hwg : ∀ j, j < gone.length → (Lit.int .i64 (gone.getD j 0)).wf = true) :
    Calls Try.prog 4 #[v1, v2, v3] w fun e w' => e = .returned (.bool true) ∧ Below w.heap.size w w' := by
  obtain ⟨a1, cap1, e1, _⟩ := id hv1
  obtain ⟨a2, cap2, e2, _⟩ := id hv2
  obtain ⟨a3, cap3, e3, _⟩ := id hv3
  subst e1 e2 e3
  go_enter Try.func4, Try.ntmps4
  go_wp2_with fail
  refine (awake03_c w).mono ?_
  rintro e w0 ⟨rfl, k0⟩
  by_cases big : (100 : Int) < ks.length ∨ (100 : Int) < gone.length
  · by_cases b1 : (100 : Int) < ks.length
    · go_wp2_with fail
      go_ret
      exact ⟨by simp, k0.below (Nat.le_refl _) (fun _ x => x.elim)⟩
    · have b2 := big.resolve_left b1
      go_wp2_with fail
      go_ret
      exact ⟨by simp, k0.below (Nat.le_refl _) (fun _ x => x.elim)⟩
  have b1 : ¬ (100 : Int) < ks.length := fun x => big (.inl x)
  have b2 : ¬ (100 : Int) < gone.length := fun x => big (.inr x)
  clear big
  go_wp2_with fail
  refine (filled03_c w0 _ ks (hv1.keep k0 (fun _ _ => id)) (by omega)).mono ?_
  rintro e w1 ⟨p, S, rfl, hh1, m1⟩
  have hup : ∀ k, S k → w.heap.size ≤ k := fun k hk => Nat.le_trans k0.size ((m1.foot k hk).resolve_left id)
  have hlt1 := hh1.lt
  obtain ⟨i3, e1, z1, g1⟩ := info_parts info_bool
  go_wp2_with (at_make; refine wpList_make_full _ (by rfl) (.tmp 35) (.tmp 35) 22 (by rfl) 0 4 i3 (.bool false) 1 Try.underlying22 e1 z1 g1.1 .i64 .i64 ks.length ks.length ks.length (by rfl) (by rfl) rfl rfl (by rw [g1.2]; omega) (by unfold maxLen; omega) (Nat.zero_le _) (fun w2 hown hgr => ?_))
  rw [Nat.mul_one] at hown
  have hrow0 : RowAt w2 4 1 encB w1.heap.size ks.length (List.replicate ks.length false) := by
    unfold RowAt RowV
    rw [← flat_false, Nat.mul_one, List.length_replicate]
    exact hown
  have hT0 : TkW w w2 p S (filledL ks) ks.length w1.heap.size ks.length (List.replicate ks.length false) :=
    TkW.filled hh1 ⟨k0.trans m1.keeps (fun _ _ x => x), fun k hk => .inr (hup k hk)⟩ hrow0 hgr
  have hI0 := Tk1.start ks gone now.length
  generalize w1.heap.size = g at hT0 ⊢
  clear hown hrow0 hgr hh1 m1 hlt1 e1 z1 g1
  go_wp2_with fail
  go_loopw [9, 10] (fun tv iv wr => ∃ (i taken : Nat) (L : List (Thing Int)) (tb : List Bool), tv = .int .i64 taken ∧ iv = .int .i64 i ∧ i ≤ gone.length ∧ TkW w wr p S L ks.length g ks.length tb ∧ Tk1 ks gone now.length i L tb taken) (fun tv iv _ => gone.length - (intOf iv).toNat)
  case atStart => exact ⟨0, 0, filledL ks, List.replicate ks.length false, rfl, rfl, Nat.zero_le _, hT0, hI0⟩
  case round =>
    obtain ⟨i, taken, L, tb, rfl, rfl, hi, hT, hI⟩ := hrel
    clear hT0 hI0
    by_cases hlt : i < gone.length
    · obtain ⟨B2, o2, cap2', ev2, hB2, hc2⟩ := hv2.at hlt
      cases ev2
      obtain ⟨a, ha⟩ : ∃ a, gone.getD i 0 = a := ⟨_, rfl⟩
      have hwa : (Lit.int .i64 a).wf = true := ha ▸ hwg i hlt
      have c2 := (hT.kp.cell (p := ⟨B2, o2 + i, none⟩) hB2 id).trans (hc2 i hlt)
      rw [ha] at c2
      have ha' : Hid (gone.getD i 0 = a) := ha
      have i0 : (0 : Int) ≤ i := by omega
      have i1 : (i : Int) < gone.length := by omega
      have r1 := removeI_o wr p S L ks.length hT.hh a hwa
      clear ha hc2
      by_cases hin : 0 ≤ a ∧ a < ks.length
      · obtain ⟨h0, h1⟩ := hin
        obtain ⟨n, rfl⟩ := Int.eq_ofNat_of_zero_le h0
        have hn : n < ks.length := by omega
        have c8 := hT.row.bool (i := n) (by rw [hI.len]; exact hn)
        have f8 := hT.row.frozen n
        cases htb : tb.getD n false with
        | true =>
          rw [htb] at c8
          by_cases hnow : (i : Int) < now.length
          · go_wp2_with fail
            go_roundw
            case rel => exact ⟨i + 1, taken, L, tb, rfl, by go_num, by omega, hT, hI.skip⟩
            case measure => simp [intOf]; omega
          · go_wp2_with fail
            go_roundw
            case rel => exact ⟨i + 1, taken, L, tb, rfl, by go_num, by omega, hT, hI.skip⟩
            case measure => simp [intOf]; omega
        | false =>
          rw [htb] at c8
          by_cases hnow : (i : Int) < now.length
          · obtain ⟨B3, o3, cap3', ev3, hB3, hc3⟩ := hv3.at (k := i) (by omega)
            cases ev3
            obtain ⟨b, hb⟩ : ∃ b, now.getD i 0 = b := ⟨_, rfl⟩
            have c3 := (hT.kp.cell (p := ⟨B3, o3 + i, none⟩) hB3 id).trans (hc3 i (by omega))
            rw [hb] at c3
            clear hc3
            have r2 := changeI_o wr p S L ks.length hT.hh n b hwa
            go_wp2_with fail
            refine r2.mono ?_
            rintro e w3 ⟨h3, m3⟩
            have hx3 : ∃ (x : Thing Int) (L' : List (Thing Int)), x.num = (n : Int) ∧ L.Perm (x :: L') ∧ e = .returned (.bool true) ∧ IsHeapI w3 p S ({ x with key := b } :: L') ks.length := by
              rcases h3 with ⟨h, _⟩ | h
              · rw [(hI.tch n hn).2 h] at htb; cases htb
              · exact h
            obtain ⟨x, L', hxn, hp3, rfl, hh3⟩ := hx3
            have hI3 := hI.change hp3 (by omega) (ha'.out.trans hxn.symm) b
            have hT3 := hT.move hh3 m3
            clear h3 hxn
            go_wp2_with fail
            go_roundw
            case rel => exact ⟨i + 1, taken, _, tb, rfl, by go_num, by omega, hT3, hI3⟩
            case measure => simp [intOf]; omega
          · have r2 := removeI_o wr p S L ks.length hT.hh n hwa
            go_wp2_with fail
            refine r2.mono ?_
            rintro e w3 ⟨h3, m3⟩
            have hx3 : ∃ (x : Thing Int) (L' : List (Thing Int)), x.num = (n : Int) ∧ L.Perm (x :: L') ∧ e = .returned (.tuple #[.int .i64 n, .bool true]) ∧ IsHeapI w3 p S L' ks.length := by
              rcases h3 with ⟨h, _⟩ | ⟨x, L', q1, q2, q3, q4⟩
              · rw [(hI.tch n hn).2 h] at htb; cases htb
              · have := (hI.rng x (q2.mem_iff.2 List.mem_cons_self)).2.2
                exact ⟨x, L', q1, q2, by rw [q3, this, q1], q4⟩
            obtain ⟨x, L', hxn, hp3, rfl, hh3⟩ := hx3
            have hI3 := hI.remove (now := now.length) hp3
            rw [hxn, Int.toNat_natCast] at hI3
            have hT3 := hT.move hh3 m3
            have hT4 := hT3.store (i := n) (by rw [hI.len]; exact hn) true
            have f9 := hT3.row.frozen n
            have hg3 := hT3.row.lt
            have c9 := hT3.row.bool (i := n) (by rw [hI.len]; exact hn)
            have t0 : (0 : Int) ≤ taken := by omega
            have t1 : (taken : Int) ≤ 100 := by have := hI3.cnt; omega
            clear h3 hxn c8 f8
            go_wp2_with fail
            go_roundw
            case rel => exact ⟨i + 1, taken + 1, _, _, by go_num, by go_num, by omega, hT4, hI3⟩
            case measure => simp [intOf]; omega
      · by_cases hnow : (i : Int) < now.length
        · by_cases h0 : 0 ≤ a
          · have h1 : ¬ a < ks.length := fun x => hin ⟨h0, x⟩
            go_wp2_with fail
            go_roundw
            case rel => exact ⟨i + 1, taken, L, tb, rfl, by go_num, by omega, hT, hI.skip⟩
            case measure => simp [intOf]; omega
          · go_wp2_with fail
            go_roundw
            case rel => exact ⟨i + 1, taken, L, tb, rfl, by go_num, by omega, hT, hI.skip⟩
            case measure => simp [intOf]; omega
        · have r2 := removeI_o wr p S L ks.length hT.hh a hwa
          have r3 : Calls Try.prog 29 #[.pointer (some ⟨p, 0, none⟩), .int .i64 a] wr fun e w' => e = .returned (.tuple #[.int .i64 0, .bool false]) ∧ TkW w w' p S L ks.length g ks.length tb := by
            refine r2.mono ?_
            rintro e w3 ⟨h3, m3⟩
            rcases h3 with ⟨_, he, hh⟩ | ⟨x, L', q1, q2, q3, q4⟩
            · exact ⟨he, hT.move hh m3⟩
            · have := hI.rng x (q2.mem_iff.2 List.mem_cons_self)
              exact absurd (by omega) hin
          by_cases h0 : 0 ≤ a
          · have h1 : ¬ a < ks.length := fun x => hin ⟨h0, x⟩
            go_wp2_with fail
            refine r3.mono ?_
            rintro e w3 ⟨rfl, hT3⟩
            go_wp2_with fail
            go_roundw
            case rel => exact ⟨i + 1, taken, L, tb, rfl, by go_num, by omega, hT3, hI.skip⟩
            case measure => simp [intOf]; omega
          · go_wp2_with fail
            refine r3.mono ?_
            rintro e w3 ⟨rfl, hT3⟩
            go_wp2_with fail
            go_roundw
            case rel => exact ⟨i + 1, taken, L, tb, rfl, by go_num, by omega, hT3, hI.skip⟩
            case measure => simp [intOf]; omega
    · have hn : ¬ (i : Int) < gone.length := by omega
      have : i = gone.length := by omega
      subst this
      have hI2 := hI.second
      have hcnt := hI.cnt
      clear hI hn hi
      go_wp2_with fail
      go_loopw [15] (fun iv wr => ∃ (i : Nat) (tb : List Bool), iv = .int .i64 i ∧ i ≤ gone.length ∧ TkW w wr p S L ks.length g ks.length tb ∧ Tk2 ks gone now.length i L tb) (fun iv _ => gone.length - (intOf iv).toNat)
      case atStart => exact ⟨0, tb, rfl, Nat.zero_le _, hT, hI2⟩
      case round =>
        obtain ⟨i, tb, rfl, hi, hT, hI⟩ := hrel
        have i0 : (0 : Int) ≤ i := by omega
        by_cases hi12 : (i : Int) < gone.length ∧ (i : Int) < now.length
        · obtain ⟨hi1, hi2⟩ := hi12
          obtain ⟨B2, o2, cap2', ev2, hB2, hc2⟩ := hv2.at (k := i) (by omega)
          cases ev2
          obtain ⟨a, ha⟩ : ∃ a, gone.getD i 0 = a := ⟨_, rfl⟩
          have c2 := (hT.kp.cell (p := ⟨B2, o2 + i, none⟩) hB2 id).trans (hc2 i (by omega))
          rw [ha] at c2
          clear hc2
          by_cases hin : 0 ≤ a ∧ a < ks.length
          · obtain ⟨h0, h1⟩ := hin
            obtain ⟨n, rfl⟩ := Int.eq_ofNat_of_zero_le h0
            have hI3 := hI.touch
            rw [ha, Int.toNat_natCast] at hI3
            have hT3 := hT.store (i := n) (by rw [hI.len]; omega) true
            have c8 := hT.row.bool (i := n) (by rw [hI.len]; omega)
            have f8 := hT.row.frozen n
            clear ha
            go_wp2_with fail
            go_roundw
            case rel => exact ⟨i + 1, _, by go_num, by omega, hT3, hI3⟩
            case measure => simp [intOf]; omega
          · have hI3 := hI.skip (by rw [ha]; exact hin)
            clear ha
            by_cases h0 : 0 ≤ a
            · have h1 : ¬ a < ks.length := fun x => hin ⟨h0, x⟩
              go_wp2_with fail
              go_roundw
              case rel => exact ⟨i + 1, _, by go_num, by omega, hT, hI3⟩
              case measure => simp [intOf]; omega
            · go_wp2_with fail
              go_roundw
              case rel => exact ⟨i + 1, _, by go_num, by omega, hT, hI3⟩
              case measure => simp [intOf]; omega
        · have hI3 := hI.third (fun x => hi12 (by omega)) hr
          have t0 : (0 : Int) ≤ taken := by omega
          have t1 : (taken : Int) ≤ ks.length := by omega
          have t2 : (L.length : Int) = ks.length - taken := by omega
          by_cases hi1 : (i : Int) < gone.length <;> (try have hi2 : ¬ (i : Int) < now.length := fun x => hi12 ⟨hi1, x⟩) <;> clear hi12 hI <;> go_wp2_with fail
          all_goals
            refine (lenI_o wr p S L _ hT.hh).mono ?_
            rintro e w3 ⟨rfl, rfl⟩
            go_wp2_with fail
            go_loopw [16, 17] (fun kv nv wr => ∃ (lk ln : Int) (L : List (Thing Int)), kv = .int .i64 lk ∧ nv = .int .i64 ln ∧ TkW w wr p S L ks.length g ks.length tb ∧ Tk3 ks L tb lk ln) (fun _ _ wr => thingsAt wr p)
            case atStart => exact ⟨_, _, L, rfl, rfl, hT, hI3⟩
            case round =>
              obtain ⟨lk, ln, L, rfl, rfl, hT, hI⟩ := hrel
              have hlen := lenI_o wr p S L _ hT.hh
              have hpop := popI_o wr p S L _ hT.hh
              have hcnt := hT.hh.count
              go_wp2_with fail
              refine hlen.mono ?_
              rintro e w3 ⟨rfl, rfl⟩
              by_cases hz : (0 : Int) < L.length
              · go_wp2_with fail
                refine hpop.mono ?_
                rintro e w3 ⟨h3, m3⟩
                rcases h3 with ⟨h, _⟩ | ⟨x, L', hf, hp3, rfl, hh3⟩
                · rw [h] at hz; simp at hz
                have hx := hI.rng x hf.1
                obtain ⟨kx, nx, vx⟩ := x
                obtain ⟨x0, x1, x2⟩ := hx
                simp only at x0 x1 x2
                subst x2
                obtain ⟨n, rfl⟩ := Int.eq_ofNat_of_zero_le x0
                have hT3 := hT.move hh3 m3
                have c8 := hT3.row.bool (i := n) (by rw [hI.len]; omega)
                have hc3 := hh3.count
                have hpl := hp3.length_eq
                simp only [List.length_cons] at hpl
                simp only
                cases htb : tb.getD n false with
                | true =>
                  rw [htb] at c8
                  have hI4 := hI.out hp3
                  clear hp3 hpop hlen m3 hf
                  go_wp2_with fail
                  go_roundw
                  case rel => exact ⟨_, _, L', rfl, rfl, hT3, hI4⟩
                  case measure => omega
                | false =>
                  rw [htb] at c8
                  have hI4 := hI.next hf hp3
                  have ho := hI.ord _ hf.1 htb
                  have hk := hI.key _ hf.1 htb
                  simp only [Int.toNat_natCast] at ho hk hI4
                  obtain ⟨B1, o1, cap1', ev1, hB1, hc1⟩ := hv1.at (k := n) (by omega)
                  cases ev1
                  have c1 := (hT3.kp.cell (p := ⟨B1, o1 + n, none⟩) hB1 id).trans (hc1 n (by omega))
                  rw [← hk] at c1
                  clear hp3 hpop hlen m3 hf hc1 hk
                  rcases ho with ho | ⟨rfl, ho⟩
                  · have ho2 : ¬ kx < lk := by omega
                    have ho3 : ¬ kx = lk := by omega
                    clear ho
                    go_wp2_with fail
                    go_roundw
                    case rel => exact ⟨_, _, L', rfl, rfl, hT3, hI4⟩
                    case measure => omega
                  · have ho2 : ¬ (n : Int) < ln := by omega
                    clear ho
                    go_wp2_with fail
                    go_roundw
                    case rel => exact ⟨_, _, L', rfl, rfl, hT3, hI4⟩
                    case measure => omega
              · go_wp2_with fail
                go_ret
                exact ⟨rfl, hT.kp.below (Nat.le_refl _) (fun _ x => x.elim)⟩

end Go.Proofs.Ytofdcmbjcpfabaa
