/- Tables of timers: Bytes. -/
import Derived.Test.YtofdcmbjcpfabaaTmG
import Derived.Test.YtofdcmbjcpfabaaCodeF
namespace Go.Proofs.Ytofdcmbjcpfabaa
open Go.RowKit Go.Maps Go.MapKept Go.ChangeMaps
attribute [local go_sem ↓] Go.wp_at_zero Go.wp_at_succ

theorem View.unique {w : World} {p : Nat} {S : Nat → Prop} {L : List (Thing Tm)} {next : Int} (h : IsTable w p S L next) {vs us : List Tm} (h1 : View L vs) (h2 : View L us) : vs = us := by
  obtain ⟨hp, S1, mb, f, _, _, _, _, _, h6, _⟩ := h
  obtain ⟨a, pa, sa, rfl⟩ := h1
  obtain ⟨b, pb, sb, rfl⟩ := h2
  have : a = b := (pa.trans pb.symm).eq_of_pairwise (fun x y hx hy l1 l2 => num_inj h6 (pa.mem_iff.1 hx) (pb.mem_iff.1 hy) (by unfold Thing.le at l1 l2; omega)) sa sb
  rw [this]

/-- A timer's bytes; a table's. -/
def tmB (t : Tm) : List UInt8 := uv (zigN t.due) ++ (tv t.owner ++ uv t.id.toNat)
def tbB (vs : List Tm) : List UInt8 := uv vs.length ++ vs.flatMap tmB

/-- A timer that can be put in bytes. -/
def Fine (t : Tm) : Prop := -9223372036854775808 ≤ t.due ∧ t.due ≤ 9223372036854775807 ∧ 0 ≤ t.id ∧ t.id ≤ 9223372036854775807 ∧ t.owner.size ≤ 20000

theorem uv_len (n : Nat) : 0 < (uv n).length ∧ (uv n).length ≤ 10 := uvF_len 9 n
theorem tv_len (s : ByteArray) : 0 < (tv s).length ∧ (tv s).length ≤ 10 + s.size := by
  have := uv_len s.size
  have e : (tv s).length = (uv s.size).length + s.size := by unfold tv; rw [List.length_append]; rfl
  omega

theorem tmB_len {t : Tm} (h : Fine t) : (tmB t).length ≤ 20030 := by
  have h1 := uv_len (zigN t.due)
  have h2 := tv_len t.owner
  have h3 := uv_len t.id.toNat
  obtain ⟨_, _, _, _, h4⟩ := h
  unfold tmB
  simp only [List.length_append]
  omega

theorem tbB_len : ∀ {vs : List Tm}, (∀ t ∈ vs, Fine t) → (vs.flatMap tmB).length ≤ vs.length * 20030 := by
  intro vs
  induction vs with
  | nil => intro _; simp
  | cons t vs ih =>
    intro h
    have h1 := tmB_len (h t List.mem_cons_self)
    have h2 := ih (fun u hu => h u (List.mem_cons_of_mem _ hu))
    rw [List.flatMap_cons, List.length_append, List.length_cons]
    omega

theorem bytesRow {w : World} {v : Value} {ys : List UInt8} (h : BytesV w v ys) (hp : 0 < ys.length) : ∃ g cap, v = .slice (some ⟨g, 0, none⟩) ys.length cap ∧ g < w.heap.size := by
  rcases h.form with ⟨_, e⟩ | ⟨g, cap, rfl⟩
  · subst e; simp at hp
  · exact ⟨g, cap, rfl, (World.ownsRow.lt h g rfl).2⟩

theorem encU_one (ys : List UInt8) : ∀ u ∈ ys.flatMap encU, u.oneCell' = true := fun u hu => by
  obtain ⟨x, _, hx⟩ := List.mem_flatMap.1 hu
  simp [encU] at hx
  rcases hx with rfl
  rfl

theorem encU_flat (ys : List UInt8) : (ys.flatMap encU).length = ys.length * 1 := flat_length encU 1 encU_len ys

theorem bytesNews {w : World} {g cap : Nat} {ys : List UInt8} (h : BytesV w (.slice (some ⟨g, 0, none⟩) ys.length cap) ys) : ∀ j u, (ys.flatMap encU)[j]? = some u → w.cell? ((⟨g, 0, none⟩ : Addr).add j) = some u := fun j u hu => by
  have hr : RowAt w 5 1 encU g cap ys := h
  have hj := (List.getElem?_eq_some_iff.1 hu).1
  rw [encU_flat] at hj
  rw [Addr.add_lit, Nat.zero_add, World.ownsRow.cellAt hr j hj]
  exact hu

/-- Bytes put behind bytes. -/
theorem wp_bytes {ops : Array Oper} {rest : List Oper} {o : Oper} {a : Act} {Q : Exit → Act → World → Prop} {w : World} (hgd : o.guard = none) (s x : Operand)
    (ho : o.op = .call { callee := .builtin .append, args := #[s, x], argTypes := #[112, 112] }) (v : Value) (bs : List UInt8) (hs : a.eval s = v) (hb : BytesV w v bs) (g m c : Nat) (ys : List UInt8)
    (hx : a.eval x = .slice (some ⟨g, 0, none⟩) m c) (hm : ys.length = m) (hy : BytesV w (.slice (some ⟨g, 0, none⟩) m c) ys) (hp : 0 < m) (N : Nat) (hN : bs.length = N) (hbound : N + m ≤ 1000000000)
    (h : ∀ g' c' w', BytesV w' (.slice (some ⟨g', 0, none⟩) (N + m) c') (bs ++ ys) → (v.ownBlock = some g' ∨ w.heap.size ≤ g') → Keeps (fun b => v.ownBlock = some b) w w' → wpList Try.prog ops Q rest (a.put o.dst (.slice (some ⟨g', 0, none⟩) (N + m) c')) w') : wpList Try.prog ops Q (o :: rest) a w := by
  obtain ⟨i0, hi, hz0, hz1, hz2⟩ := info_parts infoU
  subst hm hN
  refine wpList_append_lies w hgd s x 112 ho 0 5 i0 (.int .u8 0) 1 1 Try.underlying112 hi hz0 hz1 hz2 (by rfl) (by decide) v bs.length (bs.flatMap encU) hs hb ⟨g, 0, none⟩ ys.length c (ys.flatMap encU) hx (encU_flat ys) (bytesNews hy) (encU_one ys) hp (by unfold maxLen; omega) (by omega) (Nat.zero_le _) _ rfl ?_
  intro g' c' w' hown hgrow hat _
  refine h g' c' w' ?_ (hat.imp id (fun e => Nat.le_of_eq e.symm)) ((Keeps.refl (fun b => v.ownBlock = some b) w).grown hgrow (fun k e _ => e))
  unfold BytesV RowV
  rw [List.length_append, List.flatMap_append]
  exact hown


set_option maxRecDepth 100000 in
set_option maxHeartbeats 8000000 in
theorem bytesTable_o (w : World) (p : Nat) (S : Nat → Prop) (L : List (Thing Tm)) (next : Int) (h : IsTable w p S L next) (hbig : L.length ≤ 4096) {vs : List Tm} (hview : View L vs) (hfine : ∀ t ∈ vs, Fine t) :
    Calls Try.prog 62 #[.pointer (some ⟨p, 0, none⟩)] w (PutP w (tbB vs)) := by
  obtain ⟨i0, hi, hz0, hz1, hz2⟩ := info_parts infoU
  have hmade := made_o w p S L next h
  have hall := allTable_o w p S L next h (by omega)
  go_enter Try.func62, Try.ntmps62
  go_wp2_with fail
  refine hmade.mono ?_
  rintro e w1 ⟨rfl, rfl⟩
  go_wp2_with fail
  refine hall.mono ?_
  intro e w1 hq
  obtain ⟨a, c, l, rfl, hperm, hsort, hrow, hfr, k1⟩ := hq
  obtain rfl : vs = l.map Thing.v := View.unique h hview ⟨l, hperm, hsort, rfl⟩
  obtain ⟨n, hn⟩ : ∃ n, l.length = n := ⟨_, rfl⟩
  have hvl : (l.map Thing.v).length = n := by rw [List.length_map, hn]
  obtain ⟨vs, hvs⟩ : ∃ vs, l.map Thing.v = vs := ⟨_, rfl⟩
  rw [hvs] at hrow hvl hview hfine ⊢
  have htb : Hid (tbB (l.map Thing.v) = uv n ++ vs.flatMap tmB) := by show _ = _; rw [hvs]; unfold tbB; rw [hvl]
  rw [hvl] at hrow
  rw [hn] at hfr ⊢
  have hnb : n ≤ 4096 := by rw [← hn, hperm.length_eq]; exact hbig
  have nz : (0 : Int) ≤ n := by omega
  have nz1 : (n : Int) ≤ 4096 := by omega
  have hpu := putUint_c w1 n (by have : (2 : Nat) ^ 64 = 18446744073709551616 := rfl; omega)
  have hvlh : Hid (vs.length = n) := hvl
  clear hall hmade hperm hsort hvs hn hview
  go_wp2_with fail
  refine hpu.mono ?_
  intro e w2 hpp
  obtain ⟨v0, rfl, hr0, hf0, k2⟩ := hpp
  have hrow2 := hrow.at_block (fun b hb => k2.block b (World.ownsRow.lt hrow b hb).2 id)
  have hdis0 : ∀ b, v0.ownBlock = some b → (Value.slice a n c).ownBlock ≠ some b := fun b hb e => by have := hf0 b hb; have := (World.ownsRow.lt hrow b e).2; omega
  have hf0' : ∀ b, v0.ownBlock = some b → w.heap.size ≤ b := fun b hb => Nat.le_trans k1.size (hf0 b hb)
  have k02 : Keeps NoBlk w w2 := k1.trans k2 (fun _ _ x => x)
  have hul := (uv_len n).2
  clear hrow hpu
  go_wp2_with fail
  go_loopw [4, 18] (fun bv iv wr => ∃ (k : Nat) (vb : Value), bv = vb ∧ iv = .int .i64 k ∧ k ≤ n ∧ BytesV wr vb (uv n ++ (vs.take k).flatMap tmB) ∧ (∀ b, vb.ownBlock = some b → w.heap.size ≤ b ∧ (Value.slice a n c).ownBlock ≠ some b) ∧ RowV wr 53 3 encTm (.slice a n c) vs ∧ Keeps NoBlk w wr) (fun _ iv _ => n - (intOf iv).toNat)
  case atStart => exact ⟨0, v0, rfl, rfl, Nat.zero_le _, by simpa using hr0, fun b hb => ⟨hf0' b hb, hdis0 b hb⟩, hrow2, k02⟩
  case round =>
    clear hr0 hrow2 k02 hf0 hdis0 hf0'
    obtain ⟨k, vb, rfl, rfl, hkn, hb, hfb, hrow, hK⟩ := hrel
    have kz : (0 : Int) ≤ k := by omega
    by_cases hlt : (k : Int) < n
    · have hkl : k < vs.length := by rw [hvlh.out]; omega
      obtain ⟨g, c', ev, hg, q0, q1, q2⟩ := tmsAt hrow hkl
      rw [hvlh.out] at ev
      cases ev
      obtain ⟨t, ht⟩ : ∃ t, vs[k] = t := ⟨_, rfl⟩
      rw [ht] at q0 q1 q2
      have hft := hfine t (by rw [← ht]; exact List.getElem_mem hkl)
      obtain ⟨f1, f2, f3, f4, f5⟩ := id hft
      obtain ⟨m, hm⟩ : ∃ m : Nat, t.id = m := ⟨t.id.toNat, by omega⟩
      have htk : Hid (uv n ++ (vs.take (k + 1)).flatMap tmB = (uv n ++ (vs.take k).flatMap tmB) ++ (uv (zigN t.due) ++ (tv t.owner ++ uv m))) := by
        show _ = _
        rw [List.take_succ_eq_append_getElem hkl, ht, List.flatMap_append]
        simp [tmB, hm]
      have hbl : (uv n ++ (vs.take k).flatMap tmB).length ≤ 10 + k * 20030 := by
        have := tbB_len (vs := vs.take k) (fun u hu => hfine u (List.mem_of_mem_take hu))
        rw [List.length_take, Nat.min_eq_left (by omega)] at this
        rw [List.length_append]; omega
      obtain ⟨bs, hbs⟩ : ∃ bs, uv n ++ (vs.take k).flatMap tmB = bs := ⟨_, rfl⟩
      rw [hbs] at hb hbl htk
      obtain ⟨B, hB⟩ : ∃ B, wr.heap.size = B := ⟨_, rfl⟩
      rw [hm] at q2
      have mz : (0 : Int) ≤ m := by omega
      have m64 : (m : Int) ≤ 9223372036854775807 := by omega
      have hnle : k * 20030 ≤ 4096 * 20030 := Nat.mul_le_mul_right _ (by omega)
      have hxB : (wr.alloc (.cells #[.int .i64 t.due, .string t.owner, .int .i64 m] 53)).heap[B]? = some (.cells #[.int .i64 t.due, .string t.owner, .int .i64 m] 53 (0, 0)) := by rw [← hB]; exact heap_alloc_new _ _
      have hubl : ∀ b, u4.ownBlock = some b → b ≠ B := fun b hb2 e => by
        have := (World.ownsRow.lt hb b hb2).2
        omega
      replace hb : BytesV (wr.alloc (.cells #[.int .i64 t.due, .string t.owner, .int .i64 m] 53)) u4 bs := hb.at_block (fun b hb2 => Below.heap_alloc _ _ _ (World.ownsRow.lt hb b hb2).2)
      have hfb2 : ∀ b, u4.ownBlock = some b → w.heap.size ≤ b ∧ (Value.slice (some ⟨g, 0, none⟩) n c).ownBlock ≠ some b ∧ b ≠ B := fun b hb2 => ⟨(hfb b hb2).1, (hfb b hb2).2, hubl b hb2⟩
      replace hrow : RowV (wr.alloc (.cells #[.int .i64 t.due, .string t.owner, .int .i64 m] 53)) 53 3 encTm (.slice (some ⟨g, 0, none⟩) n c) vs := hrow.at_block (fun b hb2 => Below.heap_alloc _ _ _ (World.ownsRow.lt hrow b hb2).2)
      have hKc : Keeps NoBlk w (wr.alloc (.cells #[.int .i64 t.due, .string t.owner, .int .i64 m] 53)) := hK.alloc _
      replace hfb := hfb2
      have hl1 := (uv_len (zigN t.due)).2
      have hl2 := (tv_len t.owner).2
      have hl3 := (uv_len m).2
      clear hm ht hbs hfb2 hubl hK
      go_wp2_with fail
      refine (putInt_c _ t.due f1 f2).mono ?_
      intro e wq hpp
      obtain ⟨vq, rfl, hrq, hfq, kq⟩ := hpp
      have hyp : 0 < (uv (zigN t.due)).length := (uv_len _).1
      obtain ⟨gq, cq, hvq, hglq⟩ := bytesRow hrq hyp
      obtain ⟨mq1, hmq⟩ : ∃ mq1, (uv (zigN t.due)).length = mq1 := ⟨_, rfl⟩
      rw [hmq] at hvq hyp
      subst hvq
      replace hb := hb.at_block (fun b hb2 => kq.block b (World.ownsRow.lt hb b hb2).2 id)
      replace hxB := (kq.block B (block_lt hxB) id).trans hxB
      replace hrow := hrow.at_block (fun b hb2 => kq.block b (World.ownsRow.lt hrow b hb2).2 id)
      have hK2 : Keeps NoBlk w wq := hKc.trans kq (fun _ _ x => x)
      clear hKc
      have hqw : w.heap.size ≤ wq.heap.size := hK2.size
      have y0 : wq.cell? ⟨B, 0, none⟩ = some (.int .i64 t.due) := by rw [cell_of_row _ _ _ _ _ _ hxB]; rfl
      have y1 : wq.cell? ⟨B, 1, none⟩ = some (.string t.owner) := by rw [cell_of_row _ _ _ _ _ _ hxB]; rfl
      have y2 : wq.cell? ⟨B, 2, none⟩ = some (.int .i64 m) := by rw [cell_of_row _ _ _ _ _ _ hxB]; rfl
      obtain ⟨N1, hN⟩ : ∃ N1, (bs).length = N1 := ⟨_, rfl⟩
      have hNb : N1 + mq1 ≤ 1000000000 := by rw [← hN, ← hmq]; omega
      go_wp2_with (at_builtin; refine wp_bytes (by rfl) (.tmp 22) (.tmp 25) (by rfl) (u4) (bs) (by rfl) hb gq mq1 cq (uv (zigN t.due)) (by rfl) hmq hrq hyp N1 hN hNb ?k1)
      case k1 =>
        intro gn1 cn1 wA hbn hatn kn
        have hxB' := (kn.block B (block_lt hxB) (fun e => by have := (hfb B e).2.2; exact this rfl)).trans hxB
        have hrow' := hrow.at_block (fun b hb2 => kn.block b (World.ownsRow.lt hrow b hb2).2 (fun e => (hfb b e).2.1 hb2))
        have hKc : Keeps NoBlk w wA := hK2.trans kn (fun b hb2 e => by have := (hfb b e).1; omega)
        have hfb' : ∀ b, (Value.slice (some ⟨gn1, 0, none⟩) (N1 + mq1) cn1).ownBlock = some b → w.heap.size ≤ b ∧ (Value.slice (some ⟨g, 0, none⟩) n c).ownBlock ≠ some b ∧ b ≠ B := fun b hb2 => by
          cases hb2
          rcases hatn with e | e
          · exact hfb _ e
          · refine ⟨by show w.heap.size ≤ gn1; omega, fun e2 => ?_, fun e2 => ?_⟩
            · have e4 : gn1 < wq.heap.size := (World.ownsRow.lt hrow _ e2).2; have e3 : wq.heap.size ≤ gn1 := e; omega
            · have := block_lt hxB; have e3 : wq.heap.size ≤ gn1 := e; have e4 : gn1 = B := e2; omega
        have hNn : Hid ((bs).length = N1) := hN
        have hmn : Hid ((uv (zigN t.due)).length = mq1) := hmq
        clear hb hxB hrow hfb hK2 kn hatn y0 y1 y2 hrq hfq kq hN hmq hNb hyp hglq
        have y0 : (wA).cell? ⟨B, 0, none⟩ = some (.int .i64 t.due) := by rw [cell_of_row _ _ _ _ _ _ hxB']; rfl
        have y1 : (wA).cell? ⟨B, 1, none⟩ = some (.string t.owner) := by rw [cell_of_row _ _ _ _ _ _ hxB']; rfl
        have y2 : (wA).cell? ⟨B, 2, none⟩ = some (.int .i64 m) := by rw [cell_of_row _ _ _ _ _ _ hxB']; rfl
        have hb := hbn
        have hxB := hxB'
        have hrow := hrow'
        have hfb := hfb'
        clear hbn hxB' hrow' hfb'
        have hL1 : (bs ++ uv (zigN t.due)).length ≤ 10 + k * 20030 + 10 := by rw [List.length_append]; omega
        go_wp2_with fail
        refine (putText_c _ t.owner (by omega)).mono ?_
        intro e wq hpp
        obtain ⟨vq, rfl, hrq, hfq, kq⟩ := hpp
        have hyp : 0 < (tv t.owner).length := (tv_len _).1
        obtain ⟨gq, cq, hvq, hglq⟩ := bytesRow hrq hyp
        obtain ⟨mq2, hmq⟩ : ∃ mq2, (tv t.owner).length = mq2 := ⟨_, rfl⟩
        rw [hmq] at hvq hyp
        subst hvq
        replace hb := hb.at_block (fun b hb2 => kq.block b (World.ownsRow.lt hb b hb2).2 id)
        replace hxB := (kq.block B (block_lt hxB) id).trans hxB
        replace hrow := hrow.at_block (fun b hb2 => kq.block b (World.ownsRow.lt hrow b hb2).2 id)
        have hK2 : Keeps NoBlk w wq := hKc.trans kq (fun _ _ x => x)
        clear hKc
        have hqw : w.heap.size ≤ wq.heap.size := hK2.size
        have y0 : wq.cell? ⟨B, 0, none⟩ = some (.int .i64 t.due) := by rw [cell_of_row _ _ _ _ _ _ hxB]; rfl
        have y1 : wq.cell? ⟨B, 1, none⟩ = some (.string t.owner) := by rw [cell_of_row _ _ _ _ _ _ hxB]; rfl
        have y2 : wq.cell? ⟨B, 2, none⟩ = some (.int .i64 m) := by rw [cell_of_row _ _ _ _ _ _ hxB]; rfl
        obtain ⟨N2, hN⟩ : ∃ N2, (bs ++ uv (zigN t.due)).length = N2 := ⟨_, rfl⟩
        have hNb : N2 + mq2 ≤ 1000000000 := by rw [← hN, ← hmq]; omega
        go_wp2_with (at_builtin; refine wp_bytes (by rfl) (.tmp 27) (.tmp 30) (by rfl) (.slice (some ⟨gn1, 0, none⟩) (N1 + mq1) cn1) (bs ++ uv (zigN t.due)) (by rfl) hb gq mq2 cq (tv t.owner) (by rfl) hmq hrq hyp N2 hN hNb ?k2)
        case k2 =>
          intro gn2 cn2 wB hbn hatn kn
          have hxB' := (kn.block B (block_lt hxB) (fun e => by have := (hfb B e).2.2; exact this rfl)).trans hxB
          have hrow' := hrow.at_block (fun b hb2 => kn.block b (World.ownsRow.lt hrow b hb2).2 (fun e => (hfb b e).2.1 hb2))
          have hKc : Keeps NoBlk w wB := hK2.trans kn (fun b hb2 e => by have := (hfb b e).1; omega)
          have hfb' : ∀ b, (Value.slice (some ⟨gn2, 0, none⟩) (N2 + mq2) cn2).ownBlock = some b → w.heap.size ≤ b ∧ (Value.slice (some ⟨g, 0, none⟩) n c).ownBlock ≠ some b ∧ b ≠ B := fun b hb2 => by
            cases hb2
            rcases hatn with e | e
            · exact hfb _ e
            · refine ⟨by show w.heap.size ≤ gn2; omega, fun e2 => ?_, fun e2 => ?_⟩
              · have e4 : gn2 < wq.heap.size := (World.ownsRow.lt hrow _ e2).2; have e3 : wq.heap.size ≤ gn2 := e; omega
              · have := block_lt hxB; have e3 : wq.heap.size ≤ gn2 := e; have e4 : gn2 = B := e2; omega
          have hNn : Hid ((bs ++ uv (zigN t.due)).length = N2) := hN
          have hmn : Hid ((tv t.owner).length = mq2) := hmq
          clear hb hxB hrow hfb hK2 kn hatn y0 y1 y2 hrq hfq kq hN hmq hNb hyp hglq
          have y0 : (wB).cell? ⟨B, 0, none⟩ = some (.int .i64 t.due) := by rw [cell_of_row _ _ _ _ _ _ hxB']; rfl
          have y1 : (wB).cell? ⟨B, 1, none⟩ = some (.string t.owner) := by rw [cell_of_row _ _ _ _ _ _ hxB']; rfl
          have y2 : (wB).cell? ⟨B, 2, none⟩ = some (.int .i64 m) := by rw [cell_of_row _ _ _ _ _ _ hxB']; rfl
          have hb := hbn
          have hxB := hxB'
          have hrow := hrow'
          have hfb := hfb'
          clear hbn hxB' hrow' hfb'
          have hL2 : (bs ++ (uv (zigN t.due) ++ tv t.owner)).length ≤ 10 + k * 20030 + 20020 := by rw [← List.append_assoc, List.length_append]; omega
          go_wp2_with fail
          refine (putUint_c _ m (by have : (2 : Nat) ^ 64 = 18446744073709551616 := rfl; omega)).mono ?_
          intro e wq hpp
          obtain ⟨vq, rfl, hrq, hfq, kq⟩ := hpp
          have hyp : 0 < (uv m).length := (uv_len _).1
          obtain ⟨gq, cq, hvq, hglq⟩ := bytesRow hrq hyp
          obtain ⟨mq3, hmq⟩ : ∃ mq3, (uv m).length = mq3 := ⟨_, rfl⟩
          rw [hmq] at hvq hyp
          subst hvq
          replace hb := hb.at_block (fun b hb2 => kq.block b (World.ownsRow.lt hb b hb2).2 id)
          replace hxB := (kq.block B (block_lt hxB) id).trans hxB
          replace hrow := hrow.at_block (fun b hb2 => kq.block b (World.ownsRow.lt hrow b hb2).2 id)
          have hK2 : Keeps NoBlk w wq := hKc.trans kq (fun _ _ x => x)
          clear hKc
          have hqw : w.heap.size ≤ wq.heap.size := hK2.size
          have y0 : wq.cell? ⟨B, 0, none⟩ = some (.int .i64 t.due) := by rw [cell_of_row _ _ _ _ _ _ hxB]; rfl
          have y1 : wq.cell? ⟨B, 1, none⟩ = some (.string t.owner) := by rw [cell_of_row _ _ _ _ _ _ hxB]; rfl
          have y2 : wq.cell? ⟨B, 2, none⟩ = some (.int .i64 m) := by rw [cell_of_row _ _ _ _ _ _ hxB]; rfl
          obtain ⟨N3, hN⟩ : ∃ N3, (bs ++ (uv (zigN t.due) ++ tv t.owner)).length = N3 := ⟨_, rfl⟩
          have hNb : N3 + mq3 ≤ 1000000000 := by rw [← hN, ← hmq]; omega
          go_wp2_with (at_builtin; refine wp_bytes (by rfl) (.tmp 32) (.tmp 36) (by rfl) (.slice (some ⟨gn2, 0, none⟩) (N2 + mq2) cn2) (bs ++ (uv (zigN t.due) ++ tv t.owner)) (by rfl) hb gq mq3 cq (uv m) (by rfl) hmq hrq hyp N3 hN hNb ?k3)
          case k3 =>
            intro gn3 cn3 wC hbn hatn kn
            have hxB' := (kn.block B (block_lt hxB) (fun e => by have := (hfb B e).2.2; exact this rfl)).trans hxB
            have hrow' := hrow.at_block (fun b hb2 => kn.block b (World.ownsRow.lt hrow b hb2).2 (fun e => (hfb b e).2.1 hb2))
            have hKc : Keeps NoBlk w wC := hK2.trans kn (fun b hb2 e => by have := (hfb b e).1; omega)
            have hfb' : ∀ b, (Value.slice (some ⟨gn3, 0, none⟩) (N3 + mq3) cn3).ownBlock = some b → w.heap.size ≤ b ∧ (Value.slice (some ⟨g, 0, none⟩) n c).ownBlock ≠ some b ∧ b ≠ B := fun b hb2 => by
              cases hb2
              rcases hatn with e | e
              · exact hfb _ e
              · refine ⟨by show w.heap.size ≤ gn3; omega, fun e2 => ?_, fun e2 => ?_⟩
                · have e4 : gn3 < wq.heap.size := (World.ownsRow.lt hrow _ e2).2; have e3 : wq.heap.size ≤ gn3 := e; omega
                · have := block_lt hxB; have e3 : wq.heap.size ≤ gn3 := e; have e4 : gn3 = B := e2; omega
            have hNn : Hid ((bs ++ (uv (zigN t.due) ++ tv t.owner)).length = N3) := hN
            have hmn : Hid ((uv m).length = mq3) := hmq
            clear hb hxB hrow hfb hK2 kn hatn y0 y1 y2 hrq hfq kq hN hmq hNb hyp hglq
            have y0 : (wC).cell? ⟨B, 0, none⟩ = some (.int .i64 t.due) := by rw [cell_of_row _ _ _ _ _ _ hxB']; rfl
            have y1 : (wC).cell? ⟨B, 1, none⟩ = some (.string t.owner) := by rw [cell_of_row _ _ _ _ _ _ hxB']; rfl
            have y2 : (wC).cell? ⟨B, 2, none⟩ = some (.int .i64 m) := by rw [cell_of_row _ _ _ _ _ _ hxB']; rfl
            have hb := hbn
            have hxB := hxB'
            have hrow := hrow'
            have hfb := hfb'
            clear hbn hxB' hrow' hfb'
            go_wp2_with fail
            go_roundw
            case rel => exact ⟨k + 1, _, rfl, by go_num, by omega, by rw [htk.out]; simpa using hb, fun b hb2 => ⟨(hfb b hb2).1, (hfb b hb2).2.1⟩, hrow, hKc⟩
            case measure => simp [intOf]; omega
    · have hkn2 : k = n := by omega
      subst hkn2
      rw [List.take_of_length_le (Nat.le_of_eq hvlh.out)] at hb
      go_wp2_with fail
      go_ret
      exact ⟨u4, rfl, by rw [htb.out]; exact hb, fun b hb => (hfb b hb).1, hK⟩

end Go.Proofs.Ytofdcmbjcpfabaa
