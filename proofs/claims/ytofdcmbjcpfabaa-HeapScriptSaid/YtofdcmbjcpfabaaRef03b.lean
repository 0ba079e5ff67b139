/- Layer 3's reference: what it does to its list. -/
import Derived.Test.YtofdcmbjcpfabaaRef03
namespace Go.Proofs.Ytofdcmbjcpfabaa
open Go.RowKit Go.Maps Go.MapKept Go.ChangeMaps
attribute [local go_sem ↓] Go.wp_at_zero Go.wp_at_succ

theorem ref_moves {w w' : World} {p : Nat} {lv lv' : Value} (hl : ∀ k, lv'.ownBlock = some k → lv.ownBlock = some k ∨ w.heap.size ≤ k) (hk : Keeps (RfFoot p lv) w w') : Moves (RfFoot p lv) w (RfFoot p lv') w' :=
  ⟨hk, fun k h => by
    rcases h with h | h
    · exact .inl (.inl h)
    · exact (hl k h).imp (fun x => .inr x) id⟩

set_option maxRecDepth 100000 in
set_option maxHeartbeats 2000000 in
theorem push_r {w : World} {p : Nat} {S : Nat → Prop} {R : List (Thing Int)} {next : Int} (h : IsRef w p S R next) (hb : R.length ≤ 1000000) (hn0 : 0 ≤ next) (hn1 : next ≤ 1000000) (key v : Int) :
    Calls Try.prog 52 #[.pointer (some ⟨p, 0, none⟩), .int .i64 key, .int .i64 v] w fun e w' => e = .returned (.int .i64 next) ∧ ∃ S', IsRef w' p S' (R ++ [⟨key, next, v⟩]) (next + 1) ∧ Moves S w S' w' := by
  obtain ⟨lv, hr, rfl⟩ := h
  obtain ⟨c0, c1⟩ := hr.fields
  obtain ⟨i0, hi, hz0, hz1, hz2⟩ := info_parts infoRf
  go_enter Try.func52, Try.ntmps52
  go_wp2_with (at_builtin; refine wpList_append_lies _ (by rfl) (.tmp 16) (.tmp 21) 87 (by rfl) 0 94 i0 (.agg #[.int .i64 0, .int .i64 0, .int .i64 0]) 3 24 Try.underlying87 hi hz0 hz1 hz2 (by rfl) (by decide) lv R.length (R.flatMap encI) (by rfl) ?hown ⟨w.heap.size, 0, none⟩ 1 1 (encI ⟨key, next, v⟩) (by rfl) (by rfl) ?news ?h1 (by decide) ?b63 ?bby (Nat.zero_le _) (w.heap.size + 1) (by simp) ?k)
  case hown => exact (hr.hg.at_block (fun b hb => Below.heap_alloc _ _ _ (hr.lt.2 b hb)) : RowV _ _ _ _ lv R)
  case news =>
    refine World.news_of_block (cs := #[.int .i64 key, .int .i64 next, .int .i64 v]) (t := 94) (fr := (0, 0)) ?_
    exact (heap_alloc_new _ _).trans (by rfl)
  case h1 => intro u hu; simp [encI] at hu; rcases hu with rfl | rfl | rfl <;> rfl
  case b63 => unfold maxLen; omega
  case bby => omega
  case k =>
    intro g cap w1 hown hgrow hat hlt
    have hpl : some p ≠ lv.ownBlock := fun e => hr.ne p e.symm rfl
    have q1 : w1.heap[p]? = some (.cells #[lv, .int .i64 next] 89 (0, 0)) := by
      rw [hgrow.block p (by have := hr.lt.1; simp; omega) hpl, Below.heap_alloc _ _ _ hr.lt.1]; exact hr.hp
    have kw : Keeps (RfFoot p lv) w w1 := ((Keeps.refl _ _).alloc _).grown hgrow (fun k e _ => .inr e)
    have r0 : w1.cell? ⟨p, 0, none⟩ = some lv := by rw [cell_of_row _ _ _ _ _ _ q1]; rfl
    have r1 : w1.cell? ⟨p, 1, none⟩ = some (.int .i64 next) := by rw [cell_of_row _ _ _ _ _ _ q1]; rfl
    have r2 : w1.frozen? ⟨p, 0, none⟩ = false := frozen_of_row _ _ _ _ _ q1
    have r3 : w1.frozen? ⟨p, 1, none⟩ = false := frozen_of_row _ _ _ _ _ q1
    have hgp : ¬ g = p := fun e => by
      subst e
      rcases hown.2 with ⟨e, _⟩ | ⟨g', cap', cur, e, _, r2, _⟩
      · cases e
      · cases e; rw [q1] at r2; cases r2
    have hfin : ∀ X, X = (w1.setCell ⟨p, 0, none⟩ (.slice (some ⟨g, 0, none⟩) (R.length + 1) cap)).setCell ⟨p, 1, none⟩ (.int .i64 (next + 1)) → ∃ S', IsRef X p S' (R ++ [⟨key, next, v⟩]) (next + 1) ∧ Moves (RfFoot p lv) w S' X := fun X hX => by
      subst hX
      have b1 : (w1.setCell ⟨p, 0, none⟩ (.slice (some ⟨g, 0, none⟩) (R.length + 1) cap)).heap[p]? = some (.cells #[.slice (some ⟨g, 0, none⟩) (R.length + 1) cap, .int .i64 next] 89 (0, 0)) := by
        rw [heap_setCell_same _ _ _ _ _ _ q1]; simp
      refine ⟨_, ⟨_, ⟨?_, ?_⟩, rfl⟩, ref_moves (lv' := .slice (some ⟨g, 0, none⟩) (R.length + 1) cap) (fun k hk => ?_) ((kw.setCell (p := ⟨p, 0, none⟩) (fun _ => .inl rfl) _).setCell (p := ⟨p, 1, none⟩) (fun _ => .inl rfl) _)⟩
      · rw [heap_setCell_same _ _ _ _ _ _ b1]; simp
      · have h0 : RowV w1 94 3 encI (.slice (some ⟨g, 0, none⟩) (R.length + 1) cap) (R ++ [⟨key, next, v⟩]) := by
          unfold RowV
          rw [List.flatMap_append, List.length_append]
          simpa using hown
        refine h0.at_block (fun b hb => ?_)
        cases hb
        rw [Below.heap_setCell _ _ _ _ hgp, Below.heap_setCell _ _ _ _ hgp]
      · cases hk
        rcases hat with e | e
        · exact .inl e
        · exact .inr (by show w.heap.size ≤ g; omega)
    clear hown hgrow kw q1
    go_wp2_with fail
    go_ret
    exact ⟨rfl, hfin _ rfl⟩

set_option maxRecDepth 100000 in
set_option maxHeartbeats 2000000 in
theorem out_r {w : World} {p : Nat} {S : Nat → Prop} {R : List (Thing Int)} {next : Int} (h : IsRef w p S R next) (hb : R.length ≤ 1000000) (j : Nat) (hj : j < R.length) :
    Calls Try.prog 106 #[.pointer (some ⟨p, 0, none⟩), .int .i64 j] w fun e w' => e = .returned (.tuple #[]) ∧ ∃ S', IsRef w' p S' (R.eraseIdx j) next ∧ Moves S w S' w' := by
  obtain ⟨lv, hr, rfl⟩ := h
  obtain ⟨i0, hi, hz0, hz1, hz2⟩ := info_parts infoRf
  go_enter Try.func106, Try.ntmps106
  go_wp2_with fail
  go_loopw [4, 5] (fun ov iv wr => ∃ (i : Nat) (lo : Value), ov = lo ∧ iv = .int .i64 i ∧ i ≤ R.length ∧ RowV wr 94 3 encI lo ((R.take i).eraseIdx j) ∧ (∀ b, lo.ownBlock = some b → w.heap.size ≤ b) ∧ Keeps NoBlk w wr) (fun _ iv _ => R.length - (intOf iv).toNat)
  case atStart => exact ⟨0, _, rfl, rfl, Nat.zero_le _, RowV.nil _ _ _ _, (fun b hb => by cases hb), Keeps.refl _ _⟩
  case round =>
    obtain ⟨i, lo, rfl, rfl, hil, hrow, hfr, hK⟩ := hrel
    have hr' := hr.keep hK (fun _ _ x => x)
    obtain ⟨c0, _⟩ := hr'.fields
    have iz0 : (0 : Int) ≤ i := by omega
    by_cases hlt : (i : Int) < R.length
    · have hil : i < R.length := by omega
      obtain ⟨g, cap, rfl, hg, k0, k1, k2⟩ := hr'.at hil
      obtain ⟨x, hx⟩ : ∃ x, R[i] = x := ⟨_, rfl⟩
      rw [hx] at k0 k1 k2
      have htk : R.take (i + 1) = R.take i ++ [x] := by rw [List.take_succ_eq_append_getElem hil, hx]
      have hlen : (R.take i).length = i := by rw [List.length_take]; omega
      by_cases hij : i = j
      · subst hij
        have hs : Hid ((R.take (i + 1)).eraseIdx i = (R.take i).eraseIdx i) := by
          show _ = _
          rw [htk, List.eraseIdx_append_of_length_le (by omega), hlen, Nat.sub_self, List.eraseIdx_of_length_le (l := R.take i) (by omega)]
          simp
        clear hx hr htk hr'
        go_wp2_with fail
        go_roundw
        case rel => exact ⟨i + 1, _, rfl, by go_num, by omega, by rw [hs.out]; exact hrow, hfr, hK⟩
        case measure => simp [intOf]; omega
      · have hij2 : ¬ (i : Int) = j := by omega
        have hs : Hid ((R.take (i + 1)).eraseIdx j = (R.take i).eraseIdx j ++ [x]) := by
          show _ = _
          rw [htk]
          by_cases e : j < i
          · rw [List.eraseIdx_append_of_lt_length (by omega)]
          · rw [List.eraseIdx_of_length_le (by simp; omega), List.eraseIdx_of_length_le (by omega)]
        have hm : ((R.take i).eraseIdx j).length ≤ i := Nat.le_trans (List.eraseIdx_sublist _ _).length_le (by omega)
        obtain ⟨m, hme⟩ : ∃ m, ((R.take i).eraseIdx j).length = m := ⟨_, rfl⟩
        obtain ⟨B, hB⟩ : ∃ B, wr.heap.size = B := ⟨_, rfl⟩
        have hoB : ∀ b, u4.ownBlock = some b → b < wr.heap.size := fun b hb => (World.ownsRow.lt hrow b hb).2
        clear hx hr htk hr'
        go_wp2_with (at_builtin; refine wpList_append_lies _ (by rfl) (.tmp 18) (.tmp 26) 87 (by rfl) 0 94 i0 (.agg #[.int .i64 0, .int .i64 0, .int .i64 0]) 3 24 Try.underlying87 hi hz0 hz1 hz2 (by rfl) (by decide) u4 m (((R.take i).eraseIdx j).flatMap encI) (by rfl) ?hown ⟨B, 0, none⟩ 1 1 (encI x) (by rfl) (by rfl) ?news ?h1 (by decide) ?b63 ?bby (Nat.zero_le _) (B + 1) (by simp [hB]) ?k)
        case hown =>
          have := (hrow.at_block (fun b hb => Below.heap_alloc wr (.cells #[.int .i64 x.key, .int .i64 x.num, .int .i64 x.v] 94) b (hoB b hb)) : RowV _ _ _ _ u4 ((R.take i).eraseIdx j))
          unfold RowV at this
          rw [hme] at this
          exact this
        case news =>
          refine World.news_of_block (cs := #[.int .i64 x.key, .int .i64 x.num, .int .i64 x.v]) (t := 94) (fr := (0, 0)) ?_
          rw [← hB]
          exact (heap_alloc_new _ _).trans (by rfl)
        case h1 => intro u hu; simp [encI] at hu; rcases hu with rfl | rfl | rfl <;> rfl
        case b63 => unfold maxLen; omega
        case bby => omega
        case k =>
          intro g4 cap4 w4 hown hgrow hat hlt4
          have k4 : Keeps (fun k => u4.ownBlock = some k) wr w4 := ((Keeps.refl (fun k => u4.ownBlock = some k) wr).alloc _).grown hgrow (fun k e _ => e)
          have hrow4 : RowV w4 94 3 encI (.slice (some ⟨g4, 0, none⟩) (m + 1) cap4) ((R.take (i + 1)).eraseIdx j) := by
            unfold RowV
            rw [hs.out, List.flatMap_append, List.length_append, hme]
            simpa using hown
          have hK4 : Keeps NoBlk w w4 := hK.trans k4 (fun b hb e => by have := hfr b e; omega)
          have hfr4 : ∀ b, (Value.slice (some ⟨g4, 0, none⟩) (m + 1) cap4).ownBlock = some b → w.heap.size ≤ b := fun b hb => by
            cases hb
            rcases hat with e | e
            · exact hfr _ e
            · have := hK.size; show w.heap.size ≤ g4; omega
          clear hown hgrow k4 hrow k0 k1 k2 c0
          go_wp2_with fail
          go_roundw
          case rel => exact ⟨i + 1, _, rfl, by go_num, by omega, hrow4, hfr4, hK4⟩
          case measure => simp [intOf]; omega
    · obtain rfl : i = R.length := by omega
      rw [List.take_length] at hrow
      obtain ⟨ga, gc, rfl⟩ := hr.len
      have f0 := hr'.frozen 0
      obtain ⟨ao, co, rfl⟩ : ∃ ao co, u4 = .slice ao (R.eraseIdx j).length co := by
        rcases hrow.form with ⟨e1, e2⟩ | ⟨b, co, e⟩
        · exact ⟨none, 0, by rw [e1, e2]; rfl⟩
        · exact ⟨_, _, e⟩
      have hne : ∀ b, (Value.slice ao (R.eraseIdx j).length co).ownBlock = some b → ¬ b = p := fun b hb e => by have := hfr b hb; have := hr.lt.1; omega
      have hfin : ∃ S', IsRef (wr.setCell ⟨p, 0, none⟩ (.slice ao (R.eraseIdx j).length co)) p S' (R.eraseIdx j) next ∧ Moves (RfFoot p (.slice ga R.length gc)) w S' (wr.setCell ⟨p, 0, none⟩ (.slice ao (R.eraseIdx j).length co)) := by
        refine ⟨_, ⟨_, ⟨?_, ?_⟩, rfl⟩, ref_moves (lv' := .slice ao (R.eraseIdx j).length co) (fun k hk => .inr (hfr k hk)) (hK.of_none.setCell (p := ⟨p, 0, none⟩) (fun _ => .inl rfl) _)⟩
        · rw [heap_setCell_same _ _ _ _ _ _ hr'.hp]; simp
        · exact hrow.at_block (fun b hb => Below.heap_setCell _ _ _ _ (hne b hb))
      clear hrow hfr hne
      go_wp2_with fail
      go_end0
      exact ⟨rfl, hfin⟩

end Go.Proofs.Ytofdcmbjcpfabaa
