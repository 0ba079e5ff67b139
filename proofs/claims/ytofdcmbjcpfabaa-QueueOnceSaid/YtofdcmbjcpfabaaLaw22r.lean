/- QueueOnce: freed. -/
import Derived.Test.YtofdcmbjcpfabaaLaw22q
namespace Go.Proofs.Ytofdcmbjcpfabaa
open Go.RowKit Go.Maps Go.MapKept Go.ChangeMaps
attribute [local go_sem ↓] Go.wp_at_zero Go.wp_at_succ

/-- Those that are held, but one. -/
def FreedP (w : World) (hs : List Hold) (j : Nat) (e : Ending) (w' : World) : Prop :=
  ∃ v', e = .returned v' ∧ RowV w' 76 2 encH v' (hs.eraseIdx j) ∧ (∀ b, v'.ownBlock = some b → w.heap.size ≤ b) ∧ Keeps NoBlk w w'

set_option maxRecDepth 100000 in
set_option maxHeartbeats 2000000 in
theorem freed_c {w : World} {v : Value} {hs : List Hold} (hr : RowV w 76 2 encH v hs) (hb : hs.length ≤ 1000000) {j : Nat} (hj : j < hs.length) :
    Calls Try.prog 46 #[v, .int .i64 j] w (FreedP w hs j) := by
  obtain ⟨i0, hi, hz0, hz1, hz2⟩ := info_parts infoH
  obtain ⟨g, cap, hv, hgl, _⟩ := holdsAt hr hj
  subst hv
  have h : RowAt w 76 2 encH g cap hs := hr
  obtain ⟨_, _, hcap, hcm, _⟩ := h.block
  obtain ⟨n, hn⟩ : ∃ n, hs.length = n := ⟨_, rfl⟩
  have hflen : (hs.flatMap encH).length = n * 2 := by rw [flat_length encH 2 encH_len, hn]
  have hcl : ∀ W : World, (∀ k, k = g → W.heap[k]? = w.heap[k]?) → ∀ t u, (hs.flatMap encH)[t]? = some u → W.cell? ⟨g, t, none⟩ = some u := fun W hW t u hu => by
    rw [World.cell?_of_block (w := w) (w' := W) (a := ⟨g, t, none⟩) (hW g rfl), World.ownsRow.cellAt h t (by have := (List.getElem?_eq_some_iff.1 hu).1; rw [hflen] at this; rw [hn]; exact this)]
    exact hu
  have h1A : ∀ l : List Hold, ∀ u ∈ l.flatMap encH, u.oneCell' = true := fun l u hu => by
    obtain ⟨x, _, hx⟩ := List.mem_flatMap.1 hu
    simp [encH] at hx; rcases hx with rfl | rfl <;> rfl
  have esplit : ∀ m, hs.flatMap encH = (hs.take m).flatMap encH ++ (hs.drop m).flatMap encH := fun m => by rw [← List.flatMap_append, List.take_append_drop]
  have tlen : ∀ m, m ≤ n → ((hs.take m).flatMap encH).length = m * 2 := fun m hm => by rw [flat_length encH 2 encH_len, List.length_take, hn, Nat.min_eq_left hm]
  have dlen : ∀ m, ((hs.drop m).flatMap encH).length = (n - m) * 2 := fun m => by rw [flat_length encH 2 encH_len, List.length_drop, hn]
  have her : hs.eraseIdx j = hs.take j ++ hs.drop (j + 1) := List.eraseIdx_eq_take_drop_succ hs j
  rw [hn] at hj hb hcap ⊢
  have newsA : ∀ W : World, (∀ k, k = g → W.heap[k]? = w.heap[k]?) → ∀ t u, ((hs.take j).flatMap encH)[t]? = some u → W.cell? ((⟨g, 0, none⟩ : Addr).add t) = some u := fun W hW t u hu => by
    rw [Addr.add_lit, Nat.zero_add]
    refine hcl W hW t u ?_
    rw [esplit j, List.getElem?_append_left (List.getElem?_eq_some_iff.1 hu).1]
    exact hu
  have newsB : Hid (∀ W : World, (∀ k, k = g → W.heap[k]? = w.heap[k]?) → ∀ t u, ((hs.drop (j + 1)).flatMap encH)[t]? = some u → W.cell? ((⟨g, (j + 1) * 2, none⟩ : Addr).add t) = some u) := fun W hW t u hu => by
    rw [Addr.add_lit]
    refine hcl W hW _ u ?_
    rw [esplit (j + 1), List.getElem?_append_right (by rw [tlen _ (by omega)]; omega), tlen _ (by omega), Nat.add_sub_cancel_left]
    exact hu
  obtain ⟨A, hA⟩ : ∃ A : Addr, (if cap = j + 1 then some (⟨g, 0, none⟩ : Addr) else some ⟨g, (j + 1) * 2, none⟩) = some A := by
    by_cases hc : cap = j + 1
    · exact ⟨⟨g, 0, none⟩, by simp [hc]⟩
    · exact ⟨⟨g, (j + 1) * 2, none⟩, by simp [hc]⟩
  have iz : (0 : Int) ≤ j := by omega
  have iz1 : (0 : Int) ≤ (j : Int) + 1 := by omega
  have jc : (j : Int) ≤ cap := by omega
  have jn : (j : Int) + 1 ≤ n := by omega
  have jcn : j ≤ cap := by omega
  have jnn : j + 1 ≤ n := by omega
  have hnc : (n : Int) ≤ cap := by omega
  have s1 : Hid (((hs.drop (j + 1)).flatMap encH).length = (n - (j + 1)) * 2) := dlen _
  have s2 : Hid (((hs.take j).flatMap encH).length = j * 2) := tlen _ (by omega)
  have s3 := h1A (hs.drop (j + 1))
  have s4 := h1A (hs.take j)
  have hln : Hid (hs.length = n) := hn
  have herh : Hid (hs.eraseIdx j = hs.take j ++ hs.drop (j + 1)) := her
  clear hn hflen hcl h1A esplit tlen dlen her hr h
  have hfin : ∀ (g3 cap3 : Nat) (w3 : World) (m : Nat) (xs : List Value), w3.ownsRow 0 76 2 (.slice (some ⟨g3, 0, none⟩) m cap3) m xs → xs = (hs.take j).flatMap encH ++ (hs.drop (j + 1)).flatMap encH → m = n - 1 → w.heap.size ≤ g3 → Keeps NoBlk w w3 → FreedP w hs j (.returned (.slice (some ⟨g3, 0, none⟩) m cap3)) w3 := fun g3 cap3 w3 m xs ho hx hm hg hk => by
    refine ⟨_, rfl, ?_, fun b hb => by cases hb; exact hg, hk⟩
    unfold RowV
    rw [List.length_eraseIdx_of_lt (by rw [hln.out]; exact hj), hln.out, herh.out, List.flatMap_append, ← hx, ← hm]
    exact ho
  by_cases j0 : j = 0
  · subst j0
    by_cases jl : n = 1
    · subst jl
      go_enter Try.func46, Try.ntmps46
      go_wp2_with fail
      go_ret
      refine ⟨_, rfl, ?_, (fun b hb => by cases hb), Keeps.refl _ _⟩
      have : hs.eraseIdx 0 = [] := List.length_eq_zero_iff.1 (by rw [List.length_eraseIdx_of_lt (by rw [hln.out]; exact hj), hln.out])
      rw [this]
      exact RowV.nil _ _ _ _
    · clear hA
      have hcn : ¬ cap = 1 := by omega
      have hn1 : (1 : Int) ≤ n := by omega
      have hn2 : 1 ≤ n := by omega
      have hc1 : 1 ≤ cap := by omega
      go_enter Try.func46, Try.ntmps46
      go_wp2_with
        (at_builtin; refine wpList_append_lies _ (by rfl) (.tmp 11) (.tmp 15) 72 (by rfl) 0 76 i0 (.agg #[.int .i64 0, .string ⟨#[]⟩]) 2 24 Try.underlying72 hi hz0 hz1 hz2 (by rfl) (by decide) (.slice none 0 0) (0) ([]) (by rfl) (World.ownsRow_nil _ _ _ _) ⟨g, 2, none⟩ (n - 1) (cap - 1) ((hs.drop (0 + 1)).flatMap encH) (by rfl) s1.out (newsB.out _ (fun _ _ => rfl)) s3 (by omega) (by unfold maxLen; omega) (by omega) (Nat.zero_le _) _ (by rfl) ?k2)
      case k2 =>
        intro g3 cap3 w3 hown hgrow hat hlt
        have hk3 : Keeps NoBlk w w3 := (Keeps.refl _ _).grown hgrow (fun k e _ => by cases e)
        have hg3 : w.heap.size ≤ g3 := by have := hat.resolve_left (fun e => by cases e); omega
        have hz := hfin g3 cap3 w3 _ _ hown (by simp) (by omega) hg3 hk3
        clear hown hgrow hat hfin
        go_wp2_with fail
        go_ret
        exact hz
  · by_cases jl : n = j + 1
    · go_enter Try.func46, Try.ntmps46
      go_wp2_with
        (at_builtin; refine wpList_append_lies _ (by rfl) (.tmp 6) (.tmp 9) 72 (by rfl) 0 76 i0 (.agg #[.int .i64 0, .string ⟨#[]⟩]) 2 24 Try.underlying72 hi hz0 hz1 hz2 (by rfl) (by decide) (.slice none 0 0) 0 [] (by rfl) (World.ownsRow_nil _ _ _ _) ⟨g, 0, none⟩ j cap ((hs.take j).flatMap encH) (by rfl) s2.out (newsA _ (fun _ _ => rfl)) s4 (by omega) (by unfold maxLen; omega) (by omega) (Nat.zero_le _) (w.heap.size) (by rfl) ?k)
      case k =>
        intro g2 cap2 w2 hown hgrow hat hlt
        have hk3 : Keeps NoBlk w w2 := (Keeps.refl _ _).grown hgrow (fun k e _ => by cases e)
        have hg3 : w.heap.size ≤ g2 := by have := hat.resolve_left (fun e => by cases e); omega
        have hc2 : j ≤ cap2 := by
          rcases hown.2 with ⟨e, _⟩ | ⟨g', c', cur, e, _, _, hnc, _⟩
          · cases e
          · cases e; omega
        have hz := hfin g2 cap2 w2 _ _ hown (by
          have : hs.drop (j + 1) = [] := List.drop_eq_nil_of_le (by rw [hln.out]; omega)
          rw [this]; simp) (by omega) hg3 hk3
        clear hown hgrow hat hfin
        go_wp2_with fail
        go_ret
        exact hz
    · clear hA
      have hcn : ¬ cap = j + 1 := by omega
      go_enter Try.func46, Try.ntmps46
      go_wp2_with
        (at_builtin; refine wpList_append_lies _ (by rfl) (.tmp 6) (.tmp 9) 72 (by rfl) 0 76 i0 (.agg #[.int .i64 0, .string ⟨#[]⟩]) 2 24 Try.underlying72 hi hz0 hz1 hz2 (by rfl) (by decide) (.slice none 0 0) 0 [] (by rfl) (World.ownsRow_nil _ _ _ _) ⟨g, 0, none⟩ j cap ((hs.take j).flatMap encH) (by rfl) s2.out (newsA _ (fun _ _ => rfl)) s4 (by omega) (by unfold maxLen; omega) (by omega) (Nat.zero_le _) (w.heap.size) (by rfl) ?k)
      case k =>
        intro g2 cap2 w2 hown hgrow hat hlt
        have hk2 : Keeps NoBlk w w2 := (Keeps.refl _ _).grown hgrow (fun k e _ => by cases e)
        have hg2 : w.heap.size ≤ g2 := by have := hat.resolve_left (fun e => by cases e); omega
        clear hgrow hat
        go_wp2_with
          (at_builtin; refine wpList_append_lies _ (by rfl) (.tmp 11) (.tmp 15) 72 (by rfl) 0 76 i0 (.agg #[.int .i64 0, .string ⟨#[]⟩]) 2 24 Try.underlying72 hi hz0 hz1 hz2 (by rfl) (by decide) (.slice (some ⟨g2, 0, none⟩) j cap2) (j) ((hs.take j).flatMap encH) (by rfl) (hown) ⟨g, (j + 1) * 2, none⟩ (n - (j + 1)) (cap - (j + 1)) ((hs.drop (j + 1)).flatMap encH) (by rfl) s1.out (newsB.out _ (fun k e => by subst e; exact hk2.block _ hgl id)) s3 (by omega) (by unfold maxLen; omega) (by omega) (Nat.zero_le _) _ (by rfl) ?k2)
        case k2 =>
          intro g3 cap3 w3 hown3 hgrow3 hat3 hlt3
          have hk3 : Keeps NoBlk w w3 := hk2.trans ((Keeps.refl (fun k => k = g2) w2).grown hgrow3 (fun k e _ => by cases e; rfl)) (fun k hk e => by omega)
          have hg3 : w.heap.size ≤ g3 := by
            rcases hat3 with e | e
            · cases e; exact hg2
            · have := hk2.size; omega
          have hz := hfin g3 cap3 w3 _ _ hown3 rfl (by omega) hg3 hk3
          clear hown3 hgrow3 hat3 hfin hown
          go_wp2_with fail
          go_ret
          exact hz

end Go.Proofs.Ytofdcmbjcpfabaa
