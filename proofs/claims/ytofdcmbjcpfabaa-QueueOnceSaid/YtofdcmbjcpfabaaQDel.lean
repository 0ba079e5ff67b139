/- Queues of tasks: slices.Delete at tasks, one taken out. -/
import Derived.Test.YtofdcmbjcpfabaaQIdx
import Derived.Test.YtofdcmbjcpfabaaRowK
namespace Go.Proofs.Ytofdcmbjcpfabaa
open Go.RowKit Go.Maps Go.MapKept Go.ChangeMaps
attribute [local go_sem ↓] Go.wp_at_zero Go.wp_at_succ

theorem zeroTask (w : World) : (zeroValue 142).run Try.prog w = .ok (taskV default) w := by kernel_rfl

set_option maxRecDepth 100000 in
set_option maxHeartbeats 2000000 in
theorem delete_c (w : World) (g cap : Nat) (ts : List Task) (h : RowAt w 142 4 encTask g cap ts) (i : Nat) (hi : i < ts.length) (hbig : ts.length ≤ 100000000000) :
    Calls Try.prog 83 #[.slice (some ⟨g, 0, none⟩) ts.length cap, .int .i64 i, .int .i64 (i + 1)] w fun e w' =>
      e = .returned (.slice (some ⟨g, 0, none⟩) (ts.length - 1) cap) ∧ RowAt w' 142 4 encTask g cap (ts.eraseIdx i) ∧ Keeps (fun k => k = g) w w' := by
  obtain ⟨cur, r1, r2, r3, r4, r5⟩ := h.block
  obtain ⟨i0, hi0, hz0, hz1, hz2⟩ := info_parts infoTask
  obtain ⟨n, hn⟩ : ∃ n, ts.length = n := ⟨_, rfl⟩
  have hcell : ∀ j, j < n * 4 → (w.cell? ⟨g, j, none⟩).isSome = true := fun j hj => by
    rw [World.ownsRow.cellAt h j (by rw [hn]; exact hj)]
    simp [flat_length encTask 4 encTask_len, hn, hj]
  have hfz : ∀ j, w.frozen? ⟨g, j, none⟩ = false := fun j => h.frozen j
  -- what is moved
  obtain ⟨news, hnews⟩ : ∃ news, news = (ts.drop (i + 1)).flatMap encTask := ⟨_, rfl⟩
  have hlen : news.length = (n - (i + 1)) * 4 := by rw [hnews, flat_length encTask 4 encTask_len, List.length_drop, hn]
  obtain ⟨A, hA, hsrc⟩ : ∃ A : Addr, (if cap = i + 1 then some (⟨g, 0, none⟩ : Addr) else some ⟨g, (i + 1) * 4, none⟩) = some A ∧ Hid (∀ t u, news[t]? = some u → w.drew.cell? (A.add t) = some u) := by
    by_cases hc : cap = i + 1
    · refine ⟨⟨g, 0, none⟩, by simp [hc], fun t u hu => ?_⟩
      have h0 : news.length = 0 := by rw [hlen]; omega
      rw [List.length_eq_zero_iff.1 h0] at hu
      simp at hu
    · refine ⟨⟨g, (i + 1) * 4, none⟩, by simp [hc], fun t u hu => ?_⟩
      have ht : t < (n - (i + 1)) * 4 := by
        have := (List.getElem?_eq_some_iff.1 hu).1
        rwa [hlen] at this
      rw [Addr.add_lit]
      show w.cell? _ = _
      rw [World.ownsRow.cellAt h _ (by rw [hn]; omega), ← hu, hnews]
      have e1 : ts.flatMap encTask = (ts.take (i + 1)).flatMap encTask ++ (ts.drop (i + 1)).flatMap encTask := by rw [← List.flatMap_append, List.take_append_drop]
      have e2 : ((ts.take (i + 1)).flatMap encTask).length = (i + 1) * 4 := by rw [flat_length encTask 4 encTask_len, List.length_take, Nat.min_eq_left (by omega)]
      rw [e1, List.getElem?_append_right (by omega), e2, Nat.add_sub_cancel_left]
  have s1 : Hid (news.length = (n - (i + 1)) * 4) := hlen
  have s2 : Hid (∀ u ∈ news, u.oneCell' = true) := by
    intro u hu
    rw [hnews] at hu
    obtain ⟨x, _, hx⟩ := List.mem_flatMap.1 hu
    simp [encTask] at hx; rcases hx with rfl | rfl | rfl | rfl <;> rfl
  have s3 : Hid (∀ t, t < news.length → (w.drew.cell? ⟨g, 0 + i * 4 + t, none⟩).isSome = true ∧ w.drew.frozen? ⟨g, 0 + i * 4 + t, none⟩ = false) := by
    intro t ht
    rw [hlen] at ht
    rw [Nat.zero_add]
    exact ⟨hcell _ (by omega), hfz _⟩
  obtain ⟨W1, hW1⟩ : ∃ W1, W1 = w.drew.setCells g (0 + i * 4) news := ⟨_, rfl⟩
  have hr1 : RowAt W1 142 4 encTask g cap (setMany ts i (ts.drop (i + 1))) := by
    rw [hW1, hnews, Nat.zero_add]
    exact (h.at_block (w' := w.drew) rfl).setMany encTask_len _ (by simp; omega)
  have hl1 : (setMany ts i (ts.drop (i + 1))).length = n := by rw [length_setMany, hn]
  have hclr : ∀ ty c, (Builtin.clear_ #[115] ty #[.slice (some ⟨g, (n - 1) * 4, none⟩) 1 c]).run Try.prog W1 = .ok (.tuple #[]) (W1.setCells g ((n - 1) * 4) (encTask default)) := fun ty c =>
    run_clear_rows W1 115 142 ty (taskV default) (encTask default) Try.underlying115 zeroTask rfl (fun v hv => by simp [encTask] at hv; rcases hv with rfl | rfl | rfl | rfl <;> rfl) g ((n - 1) * 4) 1 c (by omega)
      (fun j hj => by
        rw [World.ownsRow.cellAt hr1 _ (by rw [hl1]; simp [encTask] at hj; omega)]
        have : (n - 1) * 4 + j < n * 4 := by simp [encTask] at hj; omega
        simp [flat_length encTask 4 encTask_len, hl1, this]) (fun j hj => hr1.frozen _)
  have hclr' : ∀ ty c, (Builtin.clear_ #[115] ty #[.slice (some ⟨g, (i + (n - (i + 1))) * 4, none⟩) (n - (i + (n - (i + 1)))) c]).run Try.prog W1 = .ok (.tuple #[]) (W1.setCells g ((n - 1) * 4) (encTask default)) := fun ty c => by
    rw [show i + (n - (i + 1)) = n - 1 by omega, show n - (n - 1) = 1 by omega]
    exact hclr ty c
  clear hclr
  have X : Hid (W1 = w.drew.setCells g (0 + i * 4) news) := hW1
  have hr2 : RowAt (W1.setCells g ((n - 1) * 4) (encTask default)) 142 4 encTask g cap (ts.eraseIdx i) := by
    have := (hr1.setMany encTask_len (i := n - 1) [default] (by rw [hl1]; simp; omega)).take encTask_len (n := n - 1) (by rw [length_setMany, hl1]; omega)
    have e := setMany_erase ts i default hi
    rw [hn] at e
    rw [e] at this
    simpa using this
  have hk1 : Keeps (fun k => k = g) w W1 := by rw [hW1]; exact ((Keeps.refl (fun k => k = g) w).drew).setCells (fun _ => rfl) _ _
  have hn' : Hid (ts.length = n) := hn
  have i0' : (0 : Int) ≤ i := by omega
  have i1' : (i : Int) < n := by omega
  have i2' : (i : Int) + 1 ≤ n := by omega
  have i3' : (n : Int) ≤ cap := by omega
  have hne : ((i : Int) == (i : Int) + 1) = false := by simp; omega
  have hi01 : (0 : Int) ≤ (i : Int) + 1 := by omega
  have hic : i ≤ cap := by omega
  have hjc : i + 1 ≤ n := by omega
  have hnc : n ≤ cap := by omega
  rw [hn]
  clear hr1 hl1 hW1 hnews hlen hcell hfz r1 r2 r3 r4 r5 h
  go_enter Try.func83, Try.ntmps83
  go_wp2_with fail
  go_region_law (refine step_append_room (by rfl) (.tmp 22) (.tmp 25) 115 (by rfl) 142 i0 4 Try.underlying115 hi0 hz1 g 0 i cap (by simp [Act.eval, Act.put]) A (n - (i + 1)) (cap - (i + 1)) news (by simp [Act.eval, Act.put]) s1.out hsrc.out s2.out (by omega) s3.out ?_; rw [← X.out])
  go_wp2_with fail
  go_ret
  refine ⟨?_, hr2, hk1.setCells (fun _ => rfl) _ _⟩
  rw [show i + (n - (i + 1)) = n - 1 by omega]
  rfl

end Go.Proofs.Ytofdcmbjcpfabaa
