/- Layer 3's reference: All. -/
import Derived.Test.YtofdcmbjcpfabaaRef03d
namespace Go.Proofs.Ytofdcmbjcpfabaa
open Go.RowKit Go.Maps Go.MapKept Go.ChangeMaps
attribute [local go_sem ↓] Go.wp_at_zero Go.wp_at_succ

theorem first_of_n {R : List (Thing Int)} (hr : R.Pairwise (fun x y => x.num < y.num)) {j : Nat} (hj : j < R.length) (h : FirstN R R.length j) : FirstOf R[j] R := by
  rcases h with ⟨h0, _⟩ | ⟨j', e, x, hx, _, h1, h2⟩
  · omega
  · have : j' = j := by omega
    subst this
    obtain rfl : R[j'] = x := by rw [List.getElem?_eq_getElem hj] at hx; exact Option.some.inj hx
    refine ⟨List.getElem_mem hj, fun y hy => ?_⟩
    obtain ⟨m, hm⟩ := List.mem_iff_getElem?.1 hy
    have hml := (List.getElem?_eq_some_iff.1 hm).1
    have a1 := h1 m y hml hm
    unfold Thing.le
    rcases Nat.lt_trichotomy m j' with e | e | e
    · have := h2 m y e hm; omega
    · subst e
      rw [List.getElem?_eq_getElem hj] at hm
      rw [Option.some.inj hm]; omega
    · have := List.pairwise_iff_getElem.1 hr j' m hj hml e
      rw [List.getElem?_eq_getElem hml] at hm
      rw [Option.some.inj hm] at this
      omega

theorem perm_at {α : Type} : ∀ (l : List α) (j : Nat) (h : j < l.length), l.Perm (l[j] :: l.eraseIdx j)
  | _ :: _, 0, _ => List.Perm.refl _
  | x :: l, j + 1, h => ((perm_at l j (by simpa using h)).cons x).trans (List.Perm.swap _ _ _)

/-- What All tells. -/
def AllR (w : World) (R : List (Thing Int)) (e : Ending) (w' : World) : Prop :=
  ∃ a c out, e = .returned (.slice a out.length c) ∧ out.Perm R ∧ out.Pairwise Thing.le ∧ RowV w' 94 3 encI (.slice a out.length c) out ∧ (∀ b, (Value.slice a out.length c).ownBlock = some b → w.heap.size ≤ b) ∧ Keeps NoBlk w w'

/-- How many things the reference at p has. -/
def refLen (w : World) (p : Nat) : Nat := match w.cell? ⟨p, 0, none⟩ with | some (.slice _ n _) => n | _ => 0
theorem IsRef.count {w : World} {p : Nat} {S : Nat → Prop} {R : List (Thing Int)} {next : Int} (h : IsRef w p S R next) : refLen w p = R.length := by
  obtain ⟨lv, hr, _⟩ := h
  obtain ⟨c0, _⟩ := hr.fields
  obtain ⟨a, c, rfl⟩ := hr.len
  unfold refLen
  rw [c0]

/-- Between two rounds. -/
structure AllS (w wr : World) (p : Nat) (R : List (Thing Int)) (next : Int) (lo : Value) (out R' : List (Thing Int)) (S' : Nat → Prop) : Prop where
  ref : IsRef wr p S' R' next
  row : RowV wr 94 3 encI lo out
  fr : ∀ b, lo.ownBlock = some b → w.heap.size ≤ b ∧ ¬ S' b
  up : ∀ k, S' k → w.heap.size ≤ k
  perm : (out ++ R').Perm R
  srt : out.Pairwise Thing.le
  le : ∀ x ∈ out, ∀ y ∈ R', x.le y
  rise : R'.Pairwise (fun x y => x.num < y.num)
  kp : Keeps NoBlk w wr

set_option maxRecDepth 100000 in
set_option maxHeartbeats 2000000 in
theorem all_r {w : World} {p : Nat} {S : Nat → Prop} {R : List (Thing Int)} {next : Int} (h : IsRef w p S R next) (hb : R.length ≤ 1000000) (hrise : R.Pairwise (fun x y => x.num < y.num)) :
    Calls Try.prog 110 #[.pointer (some ⟨p, 0, none⟩)] w (AllR w R) := by
  obtain ⟨i0, hi, hz0, hz1, hz2⟩ := info_parts infoRf
  have hcp := copy_r h hb
  go_enter Try.func110, Try.ntmps110
  go_wp2_with fail
  refine hcp.mono ?_
  rintro e w1 ⟨q, S1, rfl, h1, hS1, k1⟩
  have hA0 : AllS w w1 q R next (.slice none 0 0) [] R S1 := ⟨h1, RowV.nil _ _ _ _, (fun b hb => by cases hb), hS1, List.Perm.refl _, List.Pairwise.nil, (fun x hx => by cases hx), hrise, k1⟩
  clear h1 hS1 k1 hcp h hrise
  go_wp2_with fail
  go_loopw [4] (fun ov wr => ∃ (lo : Value) (out R' : List (Thing Int)) (S' : Nat → Prop), ov = lo ∧ AllS w wr q R next lo out R' S') (fun _ wr => refLen wr q)
  case atStart => exact ⟨_, [], R, S1, rfl, hA0⟩
  case round =>
    clear hA0
    obtain ⟨lo, out, R', S', rfl, hA⟩ := hrel
    have hcnt := hA.ref.count
    obtain ⟨lv, hr, hSe⟩ := id hA.ref
    obtain ⟨c0, _⟩ := hr.fields
    have hlen : out.length + R'.length = R.length := by have := hA.perm.length_eq; simpa using this
    rcases Nat.eq_zero_or_pos R'.length with h0 | h0
    · have hR' : R' = [] := List.length_eq_zero_iff.1 h0
      subst hR'
      have hrow := hA.row
      have hp := hA.perm
      rw [List.append_nil] at hp
      have hsrt := hA.srt
      have hfr := fun b hb => (hA.fr b hb).1
      have hkp := hA.kp
      obtain ⟨ga, gc, rfl⟩ := hr.len
      obtain ⟨ao, co, rfl⟩ : ∃ ao co, u4 = .slice ao out.length co := by
        rcases hrow.form with ⟨e1, e2⟩ | ⟨b, co, e⟩
        · exact ⟨none, 0, by rw [e1, e2]; rfl⟩
        · exact ⟨_, _, e⟩
      clear hA
      go_wp2_with fail
      go_ret
      exact ⟨ao, co, out, rfl, hp, hsrt, hrow, hfr, hkp⟩
    · have hpop : Calls Try.prog 53 #[.pointer (some ⟨q, 0, none⟩)] wr fun e w' => ∃ (x : Thing Int) (R2 : List (Thing Int)) (S2 : Nat → Prop), e = .returned (.tuple #[.agg #[.int .i64 x.key, .int .i64 x.num, .int .i64 x.v], .bool true]) ∧ R2.length < R'.length ∧ Hid (∀ (W : World) (v : Value), Keeps (fun k => u4.ownBlock = some k) w' W → RowV W 94 3 encI v (out ++ [x]) → (∀ b, v.ownBlock = some b → u4.ownBlock = some b ∨ w'.heap.size ≤ b) → AllS w W q R next v (out ++ [x]) R2 S2) ∧ RowV w' 94 3 encI u4 out ∧ w.heap.size ≤ w'.heap.size := by
        refine (pop_r hA.ref (by omega)).mono ?_
        rintro e w' (⟨e0, _⟩ | ⟨j, hj, hF, rfl, S2, h2, m2⟩)
        · rw [e0] at h0; simp at h0
        · have hfo := first_of_n hA.rise hj hF
          have hpe : R'.Perm (R'[j] :: R'.eraseIdx j) := perm_at R' j hj
          have hK' : Keeps NoBlk w w' := hA.kp.trans m2.keeps (fun k hk hs => by have := hA.up k hs; omega)
          have hS2 : ∀ k, S2 k → w.heap.size ≤ k := fun k hk => by
            rcases m2.foot k hk with e | e
            · exact hA.up k e
            · exact Nat.le_trans hA.kp.size e
          have hu2 : ∀ b, u4.ownBlock = some b → ¬ S2 b := fun b hb hs => by
            rcases m2.foot b hs with e | e
            · exact (hA.fr b hb).2 e
            · have := (World.ownsRow.lt hA.row b hb).2; omega
          refine ⟨R'[j], R'.eraseIdx j, S2, rfl, by rw [List.length_eraseIdx, if_pos hj]; omega, ?_, hA.row.at_block (fun b hb => m2.keeps.block b (World.ownsRow.lt hA.row b hb).2 (hA.fr b hb).2), hK'.size⟩
          intro W v hW hrow hv
          refine ⟨h2.keep hW (fun k hk e => hu2 k e hk), hrow, fun b hb => ?_, hS2, ?_, ?_, ?_, ?_, hK'.trans hW (fun b hb e => by have := (hA.fr b e).1; omega)⟩
          · rcases hv b hb with e | e
            · exact ⟨(hA.fr b e).1, hu2 b e⟩
            · exact ⟨Nat.le_trans hK'.size e, fun hs => by have := h2.lt b hs; omega⟩
          · refine List.Perm.trans ?_ hA.perm
            rw [List.append_assoc]
            exact List.Perm.append_left _ hpe.symm
          · rw [List.pairwise_append]
            refine ⟨hA.srt, by simp, fun x hx y hy => ?_⟩
            rw [List.mem_singleton] at hy
            subst hy
            exact hA.le x hx _ hfo.1
          · intro x hx y hy
            have hy' := hpe.mem_iff.2 (List.mem_cons_of_mem _ hy)
            rcases List.mem_append.1 hx with hx | hx
            · exact hA.le x hx y hy'
            · rw [List.mem_singleton.1 hx]; exact hfo.2 y hy'
          · exact hA.rise.sublist (List.eraseIdx_sublist _ _)
      obtain ⟨ga, gc, rfl⟩ := hr.len
      have hpos : (0 : Int) < R'.length := by omega
      obtain ⟨n, hn⟩ : ∃ n, out.length = n := ⟨_, rfl⟩
      clear hA hr hSe
      go_wp2_with fail
      refine hpop.mono ?_
      rintro e w2 ⟨x, R2, S2, rfl, hlt2, hfin, hrow2, hsz⟩
      obtain ⟨D, hD⟩ : ∃ D, w2.heap.size = D := ⟨_, rfl⟩
      have hoD : ∀ b, u4.ownBlock = some b → b < w2.heap.size := fun b hb => (World.ownsRow.lt hrow2 b hb).2
      clear hpop c0
      go_wp2_with (at_builtin; refine wpList_append_lies _ (by rfl) (.tmp 20) (.tmp 22) 87 (by rfl) 0 94 i0 (.agg #[.int .i64 0, .int .i64 0, .int .i64 0]) 3 24 Try.underlying87 hi hz0 hz1 hz2 (by rfl) (by decide) u4 n (out.flatMap encI) (by rfl) ?hown ⟨D + 1, 0, none⟩ 1 1 (encI x) (by rfl) (by rfl) ?news ?h1 (by decide) ?b63 ?bby (Nat.zero_le _) (D + 2) (by simp [hD]) ?k)
      case hown =>
        have : RowV ((w2.alloc (.cells #[.int .i64 x.key, .int .i64 x.num, .int .i64 x.v] 94)).alloc (.cells #[.int .i64 x.key, .int .i64 x.num, .int .i64 x.v] 94)) 94 3 encI u4 out := hrow2.at_block (fun b hb => by
          rw [Below.heap_alloc _ _ _ (by have := hoD b hb; simp; omega), Below.heap_alloc _ _ _ (hoD b hb)])
        unfold RowV at this
        rw [hn] at this
        exact this
      case news =>
        refine World.news_of_block (cs := #[.int .i64 x.key, .int .i64 x.num, .int .i64 x.v]) (t := 94) (fr := (0, 0)) ?_
        have := heap_alloc_new (w2.alloc (.cells #[.int .i64 x.key, .int .i64 x.num, .int .i64 x.v] 94)) (.cells #[.int .i64 x.key, .int .i64 x.num, .int .i64 x.v] 94 (0, 0))
        simpa [hD] using this
      case h1 => intro u hu; simp [encI] at hu; rcases hu with rfl | rfl | rfl <;> rfl
      case b63 => unfold maxLen; omega
      case bby => omega
      case k =>
        intro g4 cap4 w4 hown hgrow hat hlt4
        have k4 : Keeps (fun k => u4.ownBlock = some k) w2 w4 := (((Keeps.refl (fun k => u4.ownBlock = some k) w2).alloc _).alloc _).grown hgrow (fun k e _ => e)
        have hrow4 : RowV w4 94 3 encI (.slice (some ⟨g4, 0, none⟩) (n + 1) cap4) (out ++ [x]) := by
          unfold RowV
          rw [List.flatMap_append, List.length_append, hn]
          simpa using hown
        have hA4 := hfin.out w4 (.slice (some ⟨g4, 0, none⟩) (n + 1) cap4) k4 hrow4 (fun b hb => by
          cases hb
          rcases hat with e | e
          · exact .inl e
          · exact .inr (by show w2.heap.size ≤ g4; omega))
        have hcnt4 := hA4.ref.count
        clear hown hgrow k4 hrow4 hfin hrow2
        go_wp2_with fail
        go_roundw
        case rel => exact ⟨_, out ++ [x], R2, S2, rfl, hA4⟩
        case measure => omega

end Go.Proofs.Ytofdcmbjcpfabaa
