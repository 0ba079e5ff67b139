/- Tables of timers: All, DropAll, Twin. -/
import Derived.Test.YtofdcmbjcpfabaaTmE
namespace Go.Proofs.Ytofdcmbjcpfabaa
open Go.RowKit Go.Maps Go.MapKept Go.ChangeMaps
attribute [local go_sem ↓] Go.wp_at_zero Go.wp_at_succ

theorem same_text (a b : ByteArray) : (a.toList == b.toList) = decide (a = b) := by
  rw [ByteArray.toList_eq, ByteArray.toList_eq]
  by_cases h : a = b
  · subst h; simp
  · simp [h]
    exact fun e => h (by cases a; cases b; exact congrArg ByteArray.mk e)

set_option maxRecDepth 100000 in
set_option maxHeartbeats 1000000 in
theorem allTable_o (w : World) (p : Nat) (S : Nat → Prop) (L : List (Thing Tm)) (next : Int) (h : IsTable w p S L next) (hbig : L.length ≤ 1000000) :
    Calls Try.prog 61 #[.pointer (some ⟨p, 0, none⟩)] w (AllOfT w L) := by
  have hmade := made_o w p S L next h
  obtain ⟨hp, S1, mb, f, h1, h2, _⟩ := h
  have c0 : w.cell? ⟨p, 0, none⟩ = some (.pointer (some ⟨hp, 0, none⟩)) := by rw [cell_of_row _ _ _ _ _ _ h1]; rfl
  have hall := allT_o w hp S1 L next h2 hbig
  go_enter Try.func61, Try.ntmps61
  go_wp2_with fail
  refine hmade.mono ?_
  rintro e w1 ⟨rfl, rfl⟩
  go_wp2_with fail
  refine hall.mono ?_
  intro e w1 hq
  obtain ⟨a, c, l', rfl, q⟩ := hq
  go_wp2_with fail
  go_ret
  exact ⟨a, c, l', rfl, q⟩

/-- Those of an owner are taken away. -/
def DropAllT (w : World) (p : Nat) (S : Nat → Prop) (L : List (Thing Tm)) (next : Int) (o : ByteArray) (e : Ending) (w' : World) : Prop :=
  e = .returned (.int .i64 ((L.filter (fun x => decide (x.v.owner = o))).length : Nat)) ∧ IsTable w' p S (L.filter (fun x => !decide (x.v.owner = o))) next ∧ Moves S w S w'

theorem IsTable.lawful {w : World} {p : Nat} {S : Nat → Prop} {L : List (Thing Tm)} {next : Int} (h : IsTable w p S L next) : Lawful L := by
  obtain ⟨hp, S1, mb, f, _, _, _, _, h5, _⟩ := h; exact h5

theorem IsTable.one {w : World} {p : Nat} {S : Nat → Prop} {L : List (Thing Tm)} {next : Int} (h : IsTable w p S L next) {x y : Thing Tm} (hx : x ∈ L) (hy : y ∈ L) (ho : x.v.owner = y.v.owner) (hi : x.v.id = y.v.id) : x = y := by
  obtain ⟨hp, S1, mb, f, _, _, _, h4, _, h6, _⟩ := h
  have a := (h4 x.v.owner x.v.id x.num).2 ⟨x, hx, rfl, rfl, rfl⟩
  have b := (h4 x.v.owner x.v.id y.num).2 ⟨y, hy, rfl, ho.symm, hi.symm⟩
  rw [a] at b
  exact num_inj h6 hx hy (Option.some.inj b)

theorem tmsAt {w : World} {v : Value} {l : List Tm} (h : RowV w 53 3 encTm v l) {i : Nat} (hi : i < l.length) :
    ∃ g cap, v = .slice (some ⟨g, 0, none⟩) l.length cap ∧ g < w.heap.size ∧ w.cell? ⟨g, i * 3, none⟩ = some (.int .i64 l[i].due) ∧ w.cell? ⟨g, i * 3 + 1, none⟩ = some (.string l[i].owner) ∧ w.cell? ⟨g, i * 3 + 2, none⟩ = some (.int .i64 l[i].id) := by
  rcases h.form with ⟨_, e⟩ | ⟨g, cap, rfl⟩
  · subst e; simp at hi
  · have hr : RowAt w 53 3 encTm g cap l := h
    exact ⟨g, cap, rfl, hr.lt, hr.cell encTm_len hi (j := 0) (by omega), hr.cell encTm_len hi (j := 1) (by omega), hr.cell encTm_len hi (j := 2) (by omega)⟩

set_option maxRecDepth 100000 in
set_option maxHeartbeats 4000000 in
theorem dropAll_o (w : World) (p : Nat) (S : Nat → Prop) (L : List (Thing Tm)) (next : Int) (h : IsTable w p S L next) (o : ByteArray) (hbig : L.length ≤ 1000000) :
    Calls Try.prog 41 #[.pointer (some ⟨p, 0, none⟩), .string o] w (DropAllT w p S L next o) := by
  have hall := allTable_o w p S L next h hbig
  have hSl := h.lt
  have hlaw := h.lawful
  go_enter Try.func41, Try.ntmps41
  go_wp2_with fail
  refine hall.mono ?_
  intro e w1 hq
  obtain ⟨a, c, l, rfl, hperm, _, hrow, hfr, k1⟩ := hq
  obtain ⟨n, hn⟩ : ∃ n, l.length = n := ⟨_, rfl⟩
  have hvl : (l.map Thing.v).length = n := by rw [List.length_map, hn]
  rw [hvl] at hrow
  rw [hn] at hfr ⊢
  have hnb : n ≤ 1000000 := by rw [← hn, hperm.length_eq]; exact hbig
  have hrS : ∀ b, (Value.slice a n c).ownBlock = some b → ¬ S b := fun b hb hs => by have := hfr b hb; have := hSl b hs; omega
  have hT1 : IsTable w1 p S (((l.take 0).filter (fun x => !decide (x.v.owner = o))) ++ l.drop 0) next := (h.keep k1 (fun _ _ x => x)).perm (by simpa using hperm.symm)
  have hnh : Hid (l.length = n) := hn
  go_wp2_with fail
  go_loopw [5, 11] (fun gv iv wr => ∃ k : Nat, gv = .int .i64 (((l.take k).filter (fun x => decide (x.v.owner = o))).length : Nat) ∧ iv = .int .i64 k ∧ k ≤ n ∧ IsTable wr p S (((l.take k).filter (fun x => !decide (x.v.owner = o))) ++ l.drop k) next ∧ RowV wr 53 3 encTm (.slice a n c) (l.map Thing.v) ∧ Moves S w S wr) (fun _ iv _ => n - (intOf iv).toNat)
  case atStart => exact ⟨0, rfl, rfl, Nat.zero_le _, hT1, hrow, k1.of_none, fun _ hk => .inl hk⟩
  case round =>
    clear hT1 hrow k1 hall
    obtain ⟨k, rfl, rfl, hkn, hT, hrow, hm⟩ := hrel
    have kz : (0 : Int) ≤ k := by omega
    by_cases hlt : (k : Int) < n
    · have hkl : k < l.length := by rw [hnh.out]; omega
      have hkm : k < (l.map Thing.v).length := by rw [hvl]; omega
      obtain ⟨g, c', ev, hg, q0, q1, q2⟩ := tmsAt hrow hkm
      rw [hvl] at ev
      cases ev
      obtain ⟨x, hx⟩ : ∃ x, l[k] = x := ⟨_, rfl⟩
      rw [List.getElem_map, hx] at q0 q1 q2
      have hdr : l.drop k = x :: l.drop (k + 1) := by rw [List.drop_eq_getElem_cons hkl, hx]
      have htk : l.take (k + 1) = l.take k ++ [x] := by rw [List.take_succ_eq_append_getElem hkl, hx]
      have hxL : x ∈ L := hperm.mem_iff.1 (by rw [← hx]; exact List.getElem_mem hkl)
      have hxl := hlaw x hxL
      obtain ⟨C, hC⟩ : ∃ C, ((l.take k).filter (fun x => decide (x.v.owner = o))).length = C := ⟨_, rfl⟩
      have hCk : C ≤ k := by rw [← hC]; exact Nat.le_trans (List.length_filter_le _ _) (by rw [List.length_take]; omega)
      rw [hC]
      rw [hdr] at hT
      have hst := same_text x.v.owner o
      by_cases hxo : x.v.owner = o
      · rw [decide_eq_true hxo] at hst
        have hTk : IsTable (wr.alloc (.cells #[.int .i64 x.v.due, .string o, .int .i64 x.v.id] 53)) p S (((l.take k).filter (fun x => !decide (x.v.owner = o))) ++ x :: l.drop (k + 1)) next := hT.keep ((Keeps.refl NoBlk _).alloc _) (fun _ _ z => z)
        have hdp := drop_o _ p S _ next hTk o x.v.id (by rw [← hxo]; exact hxl.2.2.2) (WalkArith.wf_i64 (by omega))
        have hf1 : Hid (((l.take (k + 1)).filter (fun x => decide (x.v.owner = o))).length = C + 1) := by
          show _ = _
          rw [htk, List.filter_append, List.length_append, hC]; simp [hxo]
        have hf2 : Hid (((l.take (k + 1)).filter (fun x => !decide (x.v.owner = o))) = ((l.take k).filter (fun x => !decide (x.v.owner = o)))) := by
          show _ = _
          rw [htk, List.filter_append]; simp [hxo]
        have hxin : x ∈ ((l.take k).filter (fun x => !decide (x.v.owner = o))) ++ x :: l.drop (k + 1) := by simp
        have hrowa : RowV (wr.alloc (.cells #[.int .i64 x.v.due, .string o, .int .i64 x.v.id] 53)) 53 3 encTm (.slice (some ⟨g, 0, none⟩) n c) (l.map Thing.v) := hrow.at_block (fun b hb => Below.heap_alloc _ _ _ (World.ownsRow.lt hrow b hb).2)
        have hma : Moves S w S (wr.alloc (.cells #[.int .i64 x.v.due, .string o, .int .i64 x.v.id] 53)) := ⟨hm.keeps.alloc _, hm.foot⟩
        clear hx hdr htk hT hrow hm
        go_wp2_with fail
        refine hdp.mono ?_
        intro e w2 hp2
        obtain ⟨hno, _⟩ | ⟨y, L', hp3, hyo, hyi, rfl, hT2, hm2⟩ := hp2
        · exact absurd ⟨hxo, rfl⟩ (hno x hxin)
        · obtain rfl : y = x := hTk.one (hp3.mem_iff.2 List.mem_cons_self) hxin (hyo.trans hxo.symm) hyi
          have hT3 := hT2.perm (List.perm_cons _ |>.1 (hp3.symm.trans List.perm_middle))
          have hrow2 := hrowa.at_block (fun b hb => hm2.keeps.block b (World.ownsRow.lt hrowa b hb).2 (hrS b hb))
          have hm3 := hma.trans hm2
          clear hdp hTk hp3 hT2
          go_wp2_with fail
          go_roundw
          case rel => exact ⟨k + 1, by rw [hf1.out]; go_num, by go_num, by omega, by rw [hf2.out]; exact hT3, hrow2, hm3⟩
          case measure => simp [intOf]; omega
      · rw [decide_eq_false hxo] at hst
        have hf1 : Hid (((l.take (k + 1)).filter (fun x => decide (x.v.owner = o))).length = C) := by
          show _ = _
          rw [htk, List.filter_append, List.length_append, hC]; simp [hxo]
        have hf2 : Hid (((l.take (k + 1)).filter (fun x => !decide (x.v.owner = o))) ++ l.drop (k + 1) = ((l.take k).filter (fun x => !decide (x.v.owner = o))) ++ x :: l.drop (k + 1)) := by
          show _ = _
          rw [htk, List.filter_append]; simp [hxo]
        have ka : ∀ ob, Keeps NoBlk wr (wr.alloc ob) := fun ob => (Keeps.refl _ _).alloc _
        clear hx hdr htk
        go_wp2_with fail
        go_roundw
        case rel => exact ⟨k + 1, by rw [hf1.out], by go_num, by omega, by rw [hf2.out]; exact hT.keep (ka _) (fun _ _ z => z), hrow.at_block (fun b hb => Below.heap_alloc _ _ _ (World.ownsRow.lt hrow b hb).2), hm.keeps.alloc _, hm.foot⟩
        case measure => simp [intOf]; omega
    · have hkn2 : k = n := by omega
      subst hkn2
      rw [List.drop_eq_nil_of_le (Nat.le_of_eq hnh.out), List.take_of_length_le (Nat.le_of_eq hnh.out), List.append_nil] at hT
      rw [List.take_of_length_le (Nat.le_of_eq hnh.out)]
      have hT2 := hT.perm (hperm.filter (fun x => !decide (x.v.owner = o)))
      have hc := (hperm.filter (fun x => decide (x.v.owner = o))).length_eq
      rw [hc]
      go_wp2_with fail
      go_ret
      exact ⟨rfl, hT2, hm⟩

end Go.Proofs.Ytofdcmbjcpfabaa
