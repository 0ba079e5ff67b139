/- Queues of tasks: the closure of Poll; slices.IndexFunc at tasks. -/
import Derived.Test.YtofdcmbjcpfabaaQFor
namespace Go.Proofs.Ytofdcmbjcpfabaa
open Go.RowKit Go.Maps Go.MapKept Go.ChangeMaps
attribute [local go_sem ↓] Go.wp_at_zero Go.wp_at_succ

set_option maxRecDepth 100000 in
set_option maxHeartbeats 2000000 in
theorem pollFn_c (w : World) (p Bq Bw Bn : Nat) (g : Int) (t : Task) (who : ByteArray) (now : Int) (hp : p < w.heap.size) (h1 : w.cell? ⟨p, 1, none⟩ = some (.int .i64 g)) (hg : I64 g) (hr : I64 t.ready)
    (lq : Bq < w.heap.size) (lw : Bw < w.heap.size) (ln : Bn < w.heap.size) (cq : w.cell? ⟨Bq, 0, none⟩ = some (.pointer (some ⟨p, 0, none⟩))) (cw : w.cell? ⟨Bw, 0, none⟩ = some (.string who)) (cn : w.cell? ⟨Bn, 0, none⟩ = some (.int .i64 now)) :
    Calls Try.prog 81 #[taskV t, .pointer (some ⟨Bq, 0, none⟩), .pointer (some ⟨Bw, 0, none⟩), .pointer (some ⟨Bn, 0, none⟩)] w fun e w' => e = .returned (.bool (forB g t who now)) ∧ Gr w w' := by
  have hB : ∀ o, Calls Try.prog 82 #[.pointer (some ⟨p, 0, none⟩), taskV t, .string who, .int .i64 now] (w.alloc o) fun e w' => e = .returned (.bool (forB g t who now)) ∧ Gr w w' := fun o =>
    (isFor_c (w.alloc o) p g t who now (by simp; omega) (((Keeps.refl NoBlk w).alloc o).cell (p := ⟨p, 1, none⟩) hp id |>.trans h1) hg hr).mono fun e w' ⟨he, h⟩ => ⟨he, ((Gr.refl w).alloc o).trans h⟩
  unfold taskV at hB ⊢
  have nq : ¬ Bq = w.heap.size := by omega
  have nw : ¬ Bw = w.heap.size := by omega
  have nn : ¬ Bn = w.heap.size := by omega
  obtain ⟨r, hrr⟩ : ∃ r, forB g t who now = r := ⟨_, rfl⟩
  rw [hrr] at hB ⊢
  clear hrr
  go_enter Try.func81, Try.ntmps81
  go_wp2_with fail
  refine (hB _).mono ?_
  rintro e w1 ⟨rfl, hg1⟩
  go_wp2_with fail
  go_ret
  exact ⟨rfl, hg1⟩

/-- The first place at which P holds; -1: none. -/
def idxI (P : Task → Bool) (ts : List Task) : Int := if ts.findIdx P < ts.length then (ts.findIdx P : Int) else -1

theorem idxI_hit {P : Task → Bool} {ts : List Task} {k : Nat} (hk : k < ts.length) (h : P ts[k] = true) (ha : ∀ j (hj : j < k), P (ts[j]'(by omega)) = false) : idxI P ts = k := by
  have : ts.findIdx P = k := (List.findIdx_eq hk).2 ⟨h, fun j hj => by simp [ha j hj]⟩
  unfold idxI
  rw [this, if_pos hk]

theorem idxI_miss {P : Task → Bool} {ts : List Task} (ha : ∀ j (hj : j < ts.length), P ts[j] = false) : idxI P ts = -1 := by
  unfold idxI
  rw [if_neg]
  intro h
  have := List.findIdx_getElem (w := h)
  rw [ha _ h] at this; cases this

set_option maxRecDepth 100000 in
set_option maxHeartbeats 2000000 in
theorem indexFunc_c (w : World) (a : Option Addr) (cap : Nat) (ts : List Task) (h : RowV w 142 4 encTask (.slice a ts.length cap) ts) (g : Nat) (lb : Array Value)
    (eg : ∀ args w, (callFunc g args).run Try.prog w = .ok (.enter g args) w) (P : Task → Bool)
    (hP : ∀ W t, t ∈ ts → Gr w W → Calls Try.prog g (#[taskV t] ++ lb) W fun e W' => e = .returned (.bool (P t)) ∧ Gr W W') (hn : ts.length ≤ 100000000000) :
    Calls Try.prog 80 #[.slice a ts.length cap, .func (.func g) #[] lb] w fun e w' => e = .returned (.int .i64 (idxI P ts)) ∧ Gr w w' := by
  go_enter Try.func80, Try.ntmps80
  go_wp2_with fail
  go_loopw [8] (fun iv wr => ∃ k : Nat, iv = .int .i64 k ∧ k ≤ ts.length ∧ Gr w wr ∧ Hid (∀ j (hj : j < ts.length), j < k → P ts[j] = false)) (fun iv _ => ts.length - (intOf iv).toNat)
  case atStart => exact ⟨0, rfl, Nat.zero_le _, Gr.refl _, fun j _ hj => absurd hj (Nat.not_lt_zero _)⟩
  case round =>
    obtain ⟨k, rfl, hk, hgr, hall⟩ := hrel
    have k0 : (0 : Int) ≤ k := by omega
    by_cases hlt : (k : Int) < ts.length
    · have hkl : k < ts.length := by omega
      obtain ⟨b, rfl⟩ : ∃ b, a = some ⟨b, 0, none⟩ := by
        rcases h.form with ⟨_, e⟩ | ⟨b, c, e⟩
        · rw [e] at hkl; simp at hkl
        · injection e with e1 _ _; exact ⟨b, e1⟩
      have hr : RowAt wr 142 4 encTask b cap ts := RowV.at_block h (fun b' hb' => by cases hb'; exact hgr.keeps.block _ (World.ownsRow.lt h b rfl).2 id)
      obtain ⟨t, ht⟩ : ∃ t, ts[k] = t := ⟨_, rfl⟩
      have q0 := hr.cell encTask_len hkl (j := 0) (by omega)
      have q1 := hr.cell encTask_len hkl (j := 1) (by omega)
      have q2 := hr.cell encTask_len hkl (j := 2) (by omega)
      have q3 := hr.cell encTask_len hkl (j := 3) (by omega)
      rw [ht] at q0 q1 q2 q3
      have q0' : wr.cell? ⟨b, k * 4, none⟩ = some (.string t.key) := q0
      have q1' : wr.cell? ⟨b, k * 4 + 1, none⟩ = some (.string t.sticky) := q1
      have q2' : wr.cell? ⟨b, k * 4 + 2, none⟩ = some (.int .i64 t.ready) := q2
      have q3' : wr.cell? ⟨b, k * 4 + 3, none⟩ = some (.int .i64 t.att) := q3
      have hc := hP wr t (ht ▸ List.getElem_mem hkl) hgr
      have hth : Hid (ts[k]? = some t) := by show _ = _; rw [List.getElem?_eq_getElem hkl, ht]
      unfold taskV at hc
      clear q0 q1 q2 q3 hP hr ht
      cases hq : P t with
      | true =>
        rw [hq] at hc
        have hqh : Hid (P t = true) := hq
        clear hq
        go_wp2_with fail
        refine hc.mono ?_
        rintro e w2 ⟨rfl, hg2⟩
        go_wp2_with fail
        go_ret
        refine ⟨?_, hgr.trans hg2⟩
        have e := hth.out
        rw [List.getElem?_eq_getElem hkl] at e
        rw [idxI_hit hkl (by rw [Option.some.inj e]; exact hqh.out) (fun j hj => hall.out j (by omega) hj)]
        rfl
      | false =>
        rw [hq] at hc
        have hqh : Hid (P t = false) := hq
        clear hq
        go_wp2_with fail
        refine hc.mono ?_
        rintro e w2 ⟨rfl, hg2⟩
        go_wp2_with fail
        go_roundw
        case rel =>
          refine ⟨k + 1, by go_num, by omega, hgr.trans hg2, (fun j hj hjk => ?_ : ∀ j (hj : j < ts.length), j < k + 1 → P ts[j] = false)⟩
          by_cases e : j = k
          · subst e
            have e := hth.out
            rw [List.getElem?_eq_getElem hkl] at e
            rw [Option.some.inj e]; exact hqh.out
          · exact hall.out j hj (by omega)
        case measure => simp [intOf]; omega
    · have : k = ts.length := by omega
      subst this
      go_wp2_with fail
      go_ret
      exact ⟨by rw [idxI_miss (fun j hj => hall.out j hj hj)]; rfl, hgr⟩

end Go.Proofs.Ytofdcmbjcpfabaa
