/- What a queue tells of what is out: tell, Outs, Expire, Next. -/
import Derived.Test.YtofdcmbjcpfabaaQSort
namespace Go.Proofs.Ytofdcmbjcpfabaa
open Go.RowKit Go.Maps Go.MapKept Go.ChangeMaps
attribute [local go_sem ↓] Go.wp_at_zero Go.wp_at_succ

/-- api.Out's three cells. -/
def encO (x : QOut) : List Value := [.string x.t.key, .int .i64 x.tok, .int .i64 x.t.att]
theorem encO_len (x : QOut) : (encO x).length = 3 := rfl
theorem infoOut3 : (Try.prog.info? 61).map (fun i => (i.zero, i.size, i.bytes)) = some (some (.agg #[.string ⟨#[]⟩, .int .i64 0, .int .i64 0]), 3, 32) := by kernel_rfl

/-- What tell tells. -/
def ToldQ (w : World) (f : Int → Option QOut) (sel : QOut → Bool) (e : Ending) (w' : World) : Prop :=
  ∃ a c l, e = .returned (.slice a (l.filter sel).length c) ∧ OutsOf f l ∧ RowV w' 61 3 encO (.slice a (l.filter sel).length c) (l.filter sel) ∧ (∀ b, (Value.slice a (l.filter sel).length c).ownBlock = some b → w.heap.size ≤ b) ∧ Keeps NoBlk w w'

set_option maxRecDepth 100000 in
set_option maxHeartbeats 4000000 in
theorem tellQ_o {w : World} {p : Nat} {S : Nat → Prop} {q : QS} (h : IsQ w p S q) (hpos : QPos q) (hn : q.next ≤ 1000001) (g : Nat) (cb : Array Value) (eg : ∀ args w, (callFunc g args).run Try.prog w = .ok (.enter g args) w) (sel : QOut → Bool)
    (hsel : ∀ x W, Keeps NoBlk w W → Calls Try.prog g (#[.agg #[.string x.t.key, .string x.t.sticky, .int .i64 x.t.ready, .int .i64 x.t.att, .int .i64 x.tok, .string x.who, .int .i64 x.till]] ++ cb) W fun e w' => e = .returned (.bool (sel x)) ∧ Keeps NoBlk W w') :
    Calls Try.prog 100 #[.pointer (some ⟨p, 0, none⟩), .func (.func g) #[] cb] w (ToldQ w q.outs sel) := by
  obtain ⟨i0, hi, hz0, hz1, hz2⟩ := info_parts infoOut3
  have hs := sortedQ_o h hpos hn
  go_enter Try.func100, Try.ntmps100
  go_wp2_with fail
  refine hs.mono ?_
  rintro e w1 ⟨a, c, l, rfl, hout, hlb, hrow, hfr, k1⟩
  go_wp2_with fail
  go_loopw [5, 11] (fun ov iv wr => ∃ (k : Nat) (lo : Value), ov = lo ∧ iv = .int .i64 k ∧ k ≤ l.length ∧ RowV wr 61 3 encO lo ((l.take k).filter sel) ∧ (∀ b, lo.ownBlock = some b → w.heap.size ≤ b) ∧ RowV wr 149 7 encOut (.slice a l.length c) l ∧ (∀ b, lo.ownBlock = some b → (Value.slice a l.length c).ownBlock ≠ some b) ∧ Keeps NoBlk w wr) (fun _ iv _ => l.length - (intOf iv).toNat)
  case atStart => exact ⟨0, _, rfl, rfl, Nat.zero_le _, RowV.nil _ _ _ _, (fun b hb => by cases hb), hrow, (fun b hb => by cases hb), k1⟩
  case round =>
    clear hrow k1 hs h
    obtain ⟨k, lo, rfl, rfl, hk, hout3, hofr, hrow, hne, hK⟩ := hrel
    have k0 : (0 : Int) ≤ k := by omega
    by_cases hlt : (k : Int) < l.length
    · have hkl : k < l.length := by omega
      obtain ⟨gb, rfl⟩ : ∃ gb, a = some ⟨gb, 0, none⟩ := by
        rcases hrow.form with ⟨_, e⟩ | ⟨b, c', e⟩
        · rw [e] at hkl; simp at hkl
        · injection e with e1 _ _; exact ⟨b, e1⟩
      have hr : RowAt wr 149 7 encOut gb c l := hrow
      obtain ⟨x, hx⟩ : ∃ x, l[k] = x := ⟨_, rfl⟩
      have q0 := hr.cell encOut_len hkl (j := 0) (by omega)
      have q1 := hr.cell encOut_len hkl (j := 1) (by omega)
      have q2 := hr.cell encOut_len hkl (j := 2) (by omega)
      have q3 := hr.cell encOut_len hkl (j := 3) (by omega)
      have q4 := hr.cell encOut_len hkl (j := 4) (by omega)
      have q5 := hr.cell encOut_len hkl (j := 5) (by omega)
      have q6 := hr.cell encOut_len hkl (j := 6) (by omega)
      rw [hx] at q0 q1 q2 q3 q4 q5 q6
      have r0 : wr.cell? ⟨gb, k * 7, none⟩ = some (.string x.t.key) := q0
      have r1 : wr.cell? ⟨gb, k * 7 + 1, none⟩ = some (.string x.t.sticky) := q1
      have r2 : wr.cell? ⟨gb, k * 7 + 2, none⟩ = some (.int .i64 x.t.ready) := q2
      have r3 : wr.cell? ⟨gb, k * 7 + 3, none⟩ = some (.int .i64 x.t.att) := q3
      have r4 : wr.cell? ⟨gb, k * 7 + 4, none⟩ = some (.int .i64 x.tok) := q4
      have r5 : wr.cell? ⟨gb, k * 7 + 5, none⟩ = some (.string x.who) := q5
      have r6 : wr.cell? ⟨gb, k * 7 + 6, none⟩ = some (.int .i64 x.till) := q6
      clear q0 q1 q2 q3 q4 q5 q6
      have htk : Hid ((l.take (k + 1)).filter sel = (l.take k).filter sel ++ (if sel x then [x] else [])) := by
        show _ = _
        rw [List.take_succ_eq_append_getElem hkl, hx, List.filter_append]
        cases hsx : sel x <;> simp [hsx]
      have hfl : ((l.take k).filter sel).length ≤ k := Nat.le_trans (List.length_filter_le _ _) (by rw [List.length_take]; omega)
      obtain ⟨m, hm⟩ : ∃ m, ((l.take k).filter sel).length = m := ⟨_, rfl⟩
      obtain ⟨B, hB⟩ : ∃ B, wr.heap.size = B := ⟨_, rfl⟩
      have hcall := hsel x (wr.alloc (.cells #[.string x.t.key, .string x.t.sticky, .int .i64 x.t.ready, .int .i64 x.t.att, .int .i64 x.tok, .string x.who, .int .i64 x.till] 149)) (hK.alloc _)
      have hoB : ∀ b, u5.ownBlock = some b → b < B := fun b hb => by rw [← hB]; exact (World.ownsRow.lt hout3 b hb).2
      have hgB : gb < B := by rw [← hB]; exact hr.lt
      clear hx hr hsel
      cases hsx : sel x with
      | false =>
        rw [hsx] at hcall htk
        go_wp2_with fail
        refine hcall.mono ?_
        rintro e w2 ⟨rfl, k2⟩
        have kr2 : Keeps NoBlk wr w2 := ((Keeps.refl _ _).alloc _).trans k2 (fun _ _ x => x)
        have hout2 := hout3.at_block (fun b hb => kr2.block b (by rw [hB]; exact hoB b hb) id)
        have hrow2 := hrow.at_block (fun b hb => kr2.block b (World.ownsRow.lt hrow b hb).2 id)
        go_wp2_with fail
        go_roundw
        case rel => exact ⟨k + 1, _, rfl, by go_num, by omega, by rw [htk.out]; simpa using hout2, hofr, hrow2, hne, hK.trans kr2 (fun _ _ x => x)⟩
        case measure => simp [intOf]; omega
      | true =>
        rw [hsx] at hcall htk
        go_wp2_with fail
        refine hcall.mono ?_
        rintro e w2 ⟨rfl, k2⟩
        have kr2 : Keeps NoBlk wr w2 := ((Keeps.refl _ _).alloc _).trans k2 (fun _ _ x => x)
        have hout2 := hout3.at_block (fun b hb => kr2.block b (by rw [hB]; exact hoB b hb) id)
        have hrow2 := hrow.at_block (fun b hb => kr2.block b (World.ownsRow.lt hrow b hb).2 id)
        have hxB : w2.heap[B]? = some (.cells #[.string x.t.key, .string x.t.sticky, .int .i64 x.t.ready, .int .i64 x.t.att, .int .i64 x.tok, .string x.who, .int .i64 x.till] 149 (0, 0)) := by
          rw [k2.block B (by rw [← hB]; simp) id, ← hB]
          exact heap_alloc_new _ _
        have d0 : w2.cell? ⟨B, 0, none⟩ = some (.string x.t.key) := by rw [cell_of_row _ _ _ _ _ _ hxB]; rfl
        have d3 : w2.cell? ⟨B, 3, none⟩ = some (.int .i64 x.t.att) := by rw [cell_of_row _ _ _ _ _ _ hxB]; rfl
        have d4 : w2.cell? ⟨B, 4, none⟩ = some (.int .i64 x.tok) := by rw [cell_of_row _ _ _ _ _ _ hxB]; rfl
        obtain ⟨C, hC⟩ : ∃ C, w2.heap.size = C := ⟨_, rfl⟩
        have hBC : B < C := by rw [← hC]; exact block_lt hxB
        clear hcall hout3 hrow r0 r1 r2 r3 r4 r5 r6 k2
        go_wp2_with (at_builtin; refine wpList_append_lies _ (by rfl) (.tmp 18) (.tmp 28) 58 (by rfl) 0 61 i0 (.agg #[.string ⟨#[]⟩, .int .i64 0, .int .i64 0]) 3 32 Try.underlying58 hi hz0 hz1 hz2 (by rfl) (by decide) u5 m (((l.take k).filter sel).flatMap encO) (by rfl) ?hown ⟨C, 0, none⟩ 1 1 (encO x) (by rfl) (by rfl) ?news ?h1 (by decide) ?b63 ?bby (Nat.zero_le _) (C + 1) (by simp [hC]) ?k)
        case hown =>
          have : RowV (w2.alloc (.cells #[.string x.t.key, .int .i64 x.tok, .int .i64 x.t.att] 61)) 61 3 encO u5 ((l.take k).filter sel) := hout2.at_block (fun b hb => Below.heap_alloc _ _ _ (by have := hoB b hb; omega))
          unfold RowV at this
          rw [hm] at this
          exact this
        case news =>
          refine World.news_of_block (cs := #[.string x.t.key, .int .i64 x.tok, .int .i64 x.t.att]) (t := 61) (fr := (0, 0)) ?_
          rw [← hC]
          exact (heap_alloc_new _ _).trans (by rfl)
        case h1 => intro u hu; simp [encO] at hu; rcases hu with rfl | rfl | rfl <;> rfl
        case b63 => unfold maxLen; omega
        case bby => omega
        case k =>
          intro g4 cap4 w4 hown hgrow hat hlt4
          have k4 : Keeps (fun k => u5.ownBlock = some k) w2 w4 := ((Keeps.refl (fun k => u5.ownBlock = some k) w2).alloc _).grown hgrow (fun k e _ => e)
          have hl4 : ((l.take (k + 1)).filter sel).length = m + 1 := by rw [htk.out]; simp [hm]
          have hrow4 : RowV w4 61 3 encO (.slice (some ⟨g4, 0, none⟩) (m + 1) cap4) ((l.take (k + 1)).filter sel) := by
            unfold RowV
            rw [hl4, htk.out, List.flatMap_append]
            simpa using hown
          have hK4 : Keeps NoBlk w w4 := (hK.trans kr2 (fun _ _ x => x)).trans k4 (fun b hb e => by have := hofr b e; omega)
          have hrl : RowV w4 149 7 encOut (.slice (some ⟨gb, 0, none⟩) l.length c) l := hrow2.at_block (fun b hb => k4.block b (by cases hb; show gb < w2.heap.size; omega) (fun e => hne b e hb))
          have hfr4 : ∀ b, (Value.slice (some ⟨g4, 0, none⟩) (m + 1) cap4).ownBlock = some b → w.heap.size ≤ b ∧ (Value.slice (some ⟨gb, 0, none⟩) l.length c).ownBlock ≠ some b := fun b hb => by
            cases hb
            rcases hat with e | e
            · exact ⟨hofr _ e, hne _ e⟩
            · have := hK.size
              refine ⟨?_, fun e2 => ?_⟩
              · show w.heap.size ≤ g4; omega
              · have e3 : gb = g4 := by simpa [Value.ownBlock] using e2
                omega
          clear hown hgrow hout2 hrow2 k4 hofr hne kr2 d0 d3 d4 hxB
          go_wp2_with fail
          go_roundw
          case rel => exact ⟨k + 1, _, rfl, by go_num, by omega, hrow4, fun b hb => (hfr4 b hb).1, hrl, fun b hb => (hfr4 b hb).2, hK4⟩
          case measure => simp [intOf]; omega
    · have hkl : k = l.length := by omega
      subst hkl
      rw [List.take_length] at hout3
      have hform : ∃ ao co, u5 = .slice ao (l.filter sel).length co := by
        rcases hout3.form with ⟨e1, e2⟩ | ⟨b, co, e⟩
        · exact ⟨none, 0, by rw [e1, e2]; rfl⟩
        · exact ⟨_, _, e⟩
      obtain ⟨ao, co, rfl⟩ := hform
      go_wp2_with fail
      go_ret
      exact ⟨ao, co, l, rfl, hout, hout3, hofr, hK⟩

set_option maxHeartbeats 1000000 in
theorem outsSel_c (x : QOut) (W : World) : Calls Try.prog 102 (#[.agg #[.string x.t.key, .string x.t.sticky, .int .i64 x.t.ready, .int .i64 x.t.att, .int .i64 x.tok, .string x.who, .int .i64 x.till]] ++ #[]) W fun e w' => e = .returned (.bool true) ∧ Keeps NoBlk W w' := by
  show Calls Try.prog 102 #[.agg #[.string x.t.key, .string x.t.sticky, .int .i64 x.t.ready, .int .i64 x.t.att, .int .i64 x.tok, .string x.who, .int .i64 x.till]] W fun e w' => e = .returned (.bool true) ∧ Keeps NoBlk W w'
  go_enter Try.func102, Try.ntmps102
  go_wp2
  go_ret
  exact ⟨rfl, (Keeps.refl _ _).alloc _⟩

set_option maxHeartbeats 1000000 in
theorem expireSel_c (x : QOut) (B : Nat) (now : Int) (W : World) (hB : W.cell? ⟨B, 0, none⟩ = some (.int .i64 now)) (hl : B < W.heap.size) : Calls Try.prog 101 (#[.agg #[.string x.t.key, .string x.t.sticky, .int .i64 x.t.ready, .int .i64 x.t.att, .int .i64 x.tok, .string x.who, .int .i64 x.till]] ++ #[.pointer (some ⟨B, 0, none⟩)]) W fun e w' => e = .returned (.bool (decide (x.till ≤ now))) ∧ Keeps NoBlk W w' := by
  show Calls Try.prog 101 #[.agg #[.string x.t.key, .string x.t.sticky, .int .i64 x.t.ready, .int .i64 x.t.att, .int .i64 x.tok, .string x.who, .int .i64 x.till], .pointer (some ⟨B, 0, none⟩)] W fun e w' => e = .returned (.bool (decide (x.till ≤ now))) ∧ Keeps NoBlk W w'
  go_enter Try.func101, Try.ntmps101
  go_wp2
  go_ret
  exact ⟨rfl, (Keeps.refl _ _).alloc _⟩

set_option maxHeartbeats 1000000 in
theorem outsQ_o {w : World} {p : Nat} {S : Nat → Prop} {q : QS} (h : IsQ w p S q) (hpos : QPos q) (hn : q.next ≤ 1000001) :
    Calls Try.prog 39 #[.pointer (some ⟨p, 0, none⟩)] w (ToldQ w q.outs (fun _ => true)) := by
  have ht := tellQ_o h hpos hn 102 #[] (enters_of Try.func102 (by kernel_rfl) rfl) (fun _ => true) (fun x W _ => outsSel_c x W)
  go_enter Try.func39, Try.ntmps39
  go_wp2_with fail
  refine ht.mono ?_
  rintro e w1 ⟨a, c, l, rfl, h1⟩
  go_wp2_with fail
  go_ret
  exact ⟨a, c, l, rfl, h1⟩

set_option maxHeartbeats 1000000 in
theorem expireQ_o {w : World} {p : Nat} {S : Nat → Prop} {q : QS} (h : IsQ w p S q) (hpos : QPos q) (hn : q.next ≤ 1000001) (now : Int) :
    Calls Try.prog 38 #[.pointer (some ⟨p, 0, none⟩), .int .i64 now] w (ToldQ w q.outs (fun x => decide (x.till ≤ now))) := by
  have hmf := makeFunc_run
  have ka : Keeps NoBlk w (w.alloc (.cells #[.int .i64 now] 2)) := (Keeps.refl _ _).alloc _
  have hbox := Boxed.new w 2 (.int .i64 now)
  have ht := tellQ_o (h.keep ka (fun _ _ x => x)) hpos hn 101 #[.pointer (some ⟨w.heap.size, 0, none⟩)] (enters_of Try.func101 (by kernel_rfl) rfl) (fun x => decide (x.till ≤ now))
    (fun x W hk => expireSel_c x w.heap.size now W ((hk.cell (p := ⟨w.heap.size, 0, none⟩) hbox.lt id).trans hbox.cell) (Nat.lt_of_lt_of_le hbox.lt hk.size))
  clear hbox
  go_enter Try.func38, Try.ntmps38
  go_wp2_with fail
  refine ht.mono ?_
  rintro e w1 ⟨a, c, l, rfl, h1, h2, h3, h4⟩
  go_wp2_with fail
  go_ret
  exact ⟨a, c, l, rfl, h1, h2, (fun b hb => Nat.le_trans ka.size (h3 b hb)), ka.trans h4 (fun _ _ x => x)⟩

end Go.Proofs.Ytofdcmbjcpfabaa
