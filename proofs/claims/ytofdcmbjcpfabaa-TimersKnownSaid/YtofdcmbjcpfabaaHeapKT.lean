/- Heap[api.Timer]: what it tells. -/
import Derived.Test.YtofdcmbjcpfabaaSortCT
import Derived.Test.YtofdcmbjcpfabaaIntRow
namespace Go.Proofs.Ytofdcmbjcpfabaa
open Go.RowKit Go.Maps Go.MapKept Go.ChangeMaps
attribute [local go_sem ↓] Go.wp_at_zero Go.wp_at_succ

/-- What All tells. -/
def AllOfT (w : World) (l : List (Thing Tm)) (e : Ending) (w' : World) : Prop :=
  ∃ (a : Option Addr) (c : Nat) (l' : List (Thing Tm)), e = .returned (.slice a l'.length c) ∧ l'.Perm l ∧ l'.Pairwise Thing.le ∧ RowV w' 53 3 encTm (.slice a (l'.map Thing.v).length c) (l'.map Thing.v) ∧ (∀ b, (Value.slice a l'.length c).ownBlock = some b → w.heap.size ≤ b) ∧ Keeps NoBlk w w'

set_option maxRecDepth 100000 in
set_option maxHeartbeats 4000000 in
theorem allT_raw (w : World) (pv : Option Addr) (l : List (Thing Tm)) (hs : Calls Try.prog 149 #[.pointer pv] w (OrderedT w l)) (hbig : l.length ≤ 1000000) :
    Calls Try.prog 112 #[.pointer pv] w (AllOfT w l) := by
  obtain ⟨i0, hi, hz0, hz1, hz2⟩ := info_parts infoTm
  go_enter Try.func112, Try.ntmps112
  go_wp2_with fail
  refine hs.mono ?_
  rintro e w1 ⟨a, c, l', rfl, hp, hord, hrow, hfr, k1⟩
  have hlb : l'.length ≤ 1000000 := by rw [hp.length_eq]; exact hbig
  go_wp2_with fail
  go_loopw [3, 9] (fun ov iv wr => ∃ (k : Nat) (lo : Value), ov = lo ∧ iv = .int .i64 k ∧ k ≤ l'.length ∧ RowV wr 53 3 encTm lo ((l'.take k).map Thing.v) ∧ (∀ b, lo.ownBlock = some b → w.heap.size ≤ b) ∧ RowV wr 212 5 encT (.slice a l'.length c) l' ∧ (∀ b, lo.ownBlock = some b → (Value.slice a l'.length c).ownBlock ≠ some b) ∧ Keeps NoBlk w wr) (fun _ iv _ => l'.length - (intOf iv).toNat)
  case atStart => exact ⟨0, _, rfl, rfl, Nat.zero_le _, RowV.nil _ _ _ _, (fun b hb => by cases hb), hrow, (fun b hb => by cases hb), k1⟩
  case round =>
    clear hrow k1
    obtain ⟨k, lo, rfl, rfl, hk, hout, hofr, hrow, hne, hK⟩ := hrel
    have k0 : (0 : Int) ≤ k := by omega
    by_cases hlt : (k : Int) < l'.length
    · have hkl : k < l'.length := by omega
      obtain ⟨g, rfl⟩ : ∃ g, a = some ⟨g, 0, none⟩ := by
        rcases hrow.form with ⟨_, e⟩ | ⟨b, c', e⟩
        · rw [e] at hkl; simp at hkl
        · injection e with e1 _ _; exact ⟨b, e1⟩
      have hr : RowAt wr 212 5 encT g c l' := hrow
      obtain ⟨x, hx⟩ : ∃ x, l'[k] = x := ⟨_, rfl⟩
      have q0 := hr.cell encT_len hkl (j := 0) (by omega)
      have q1 := hr.cell encT_len hkl (j := 1) (by omega)
      have q2 := hr.cell encT_len hkl (j := 2) (by omega)
      have q3 := hr.cell encT_len hkl (j := 3) (by omega)
      have q4 := hr.cell encT_len hkl (j := 4) (by omega)
      rw [hx] at q0 q1 q2 q3 q4
      have r0 : wr.cell? ⟨g, k * 5, none⟩ = some (.int .i64 x.key) := q0
      have r1 : wr.cell? ⟨g, k * 5 + 1, none⟩ = some (.int .i64 x.num) := q1
      have r2 : wr.cell? ⟨g, k * 5 + 2, none⟩ = some (.int .i64 x.v.due) := q2
      have r3 : wr.cell? ⟨g, k * 5 + 3, none⟩ = some (.string x.v.owner) := q3
      have r4 : wr.cell? ⟨g, k * 5 + 4, none⟩ = some (.int .i64 x.v.id) := q4
      clear q0 q1 q2 q3 q4
      have htk : Hid (l'.take (k + 1) = l'.take k ++ [x]) := by show _ = _; rw [List.take_succ_eq_append_getElem hkl, hx]
      have hlen : ((l'.take k).map Thing.v).length = k := by rw [List.length_map, List.length_take, Nat.min_eq_left hk]
      obtain ⟨B, hB⟩ : ∃ B, wr.heap.size = B := ⟨_, rfl⟩
      have hoB : ∀ b, u3.ownBlock = some b → b < B := fun b hb => by rw [← hB]; exact (World.ownsRow.lt hout b hb).2
      have hgB : g < B := by rw [← hB]; exact hr.lt
      clear hx hr
      go_wp2_with (at_builtin; refine wpList_append_lies _ (by rfl) (.tmp 13) (.tmp 16) 50 (by rfl) 0 53 i0 (.agg #[.int .i64 0, .string ⟨#[]⟩, .int .i64 0]) 3 32 Try.underlying50 hi hz0 hz1 hz2 (by rfl) (by decide) u3 k (((l'.take k).map Thing.v).flatMap encTm) (by rfl) ?hown ⟨B + 1, 0, none⟩ 1 1 [.int .i64 x.v.due, .string x.v.owner, .int .i64 x.v.id] (by rfl) (by rfl) ?news ?h1 (by decide) ?b63 ?bby (Nat.zero_le _) (B + 2) (by simp [hB]) ?k)
      case hown =>
        have : RowV ((wr.alloc (.cells #[.int .i64 x.key, .int .i64 x.num, .int .i64 x.v.due, .string x.v.owner, .int .i64 x.v.id] 212)).alloc (.cells #[.int .i64 x.v.due, .string x.v.owner, .int .i64 x.v.id] 53)) 53 3 encTm u3 ((l'.take k).map Thing.v) := hout.at_block (fun b hb => by
          rw [Below.heap_alloc _ _ _ (by have := hoB b hb; simp; omega), Below.heap_alloc _ _ _ (by have := hoB b hb; omega)])
        unfold RowV at this
        rw [hlen] at this
        exact this
      case news =>
        refine World.news_of_block (cs := #[.int .i64 x.v.due, .string x.v.owner, .int .i64 x.v.id]) (t := 53) (fr := (0, 0)) ?_
        have := heap_alloc_new (wr.alloc (.cells #[.int .i64 x.key, .int .i64 x.num, .int .i64 x.v.due, .string x.v.owner, .int .i64 x.v.id] 212)) (.cells #[.int .i64 x.v.due, .string x.v.owner, .int .i64 x.v.id] 53 (0, 0))
        simpa [hB] using this
      case h1 => intro u hu; simp at hu; rcases hu with rfl | rfl | rfl <;> rfl
      case b63 => unfold maxLen; omega
      case bby => omega
      case k =>
        intro g4 cap4 w4 hown hgrow hat hlt4
        have k4 : Keeps (fun k => u3.ownBlock = some k) wr w4 := (((Keeps.refl (fun k => u3.ownBlock = some k) wr).alloc _).alloc _).grown hgrow (fun k e _ => e)
        have hrow4 : RowV w4 53 3 encTm (.slice (some ⟨g4, 0, none⟩) (k + 1) cap4) ((l'.take (k + 1)).map Thing.v) := by
          unfold RowV
          rw [htk.out, List.map_append, List.flatMap_append, List.length_append, hlen]
          simpa [encTm] using hown
        have hK4 : Keeps NoBlk w w4 := hK.trans k4 (fun b hb e => by have := hofr b e; omega)
        have hrl : RowV w4 212 5 encT (.slice (some ⟨g, 0, none⟩) l'.length c) l' := hrow.at_block (fun b hb => k4.block b (by cases hb; show g < wr.heap.size; omega) (fun e => hne b e hb))
        have hfr4 : ∀ b, (Value.slice (some ⟨g4, 0, none⟩) (k + 1) cap4).ownBlock = some b → w.heap.size ≤ b ∧ (Value.slice (some ⟨g, 0, none⟩) l'.length c).ownBlock ≠ some b := fun b hb => by
          cases hb
          rcases hat with e | e
          · exact ⟨hofr _ e, hne _ e⟩
          · have := hK.size
            refine ⟨?_, fun e2 => ?_⟩
            · show w.heap.size ≤ g4; omega
            · have e3 : g = g4 := by simpa [Value.ownBlock] using e2
              omega
        clear hown hgrow hout hrow k4 hofr hne
        go_wp2_with fail
        go_roundw
        case rel => exact ⟨k + 1, _, rfl, by go_num, by omega, hrow4, fun b hb => (hfr4 b hb).1, hrl, fun b hb => (hfr4 b hb).2, hK4⟩
        case measure => simp [intOf]; omega
    · have hkl : k = l'.length := by omega
      subst hkl
      rw [List.take_length] at hout
      have hform : ∃ ao co, u3 = .slice ao l'.length co := by
        rcases hout.form with ⟨e1, e2⟩ | ⟨b, co, e⟩
        · have : l'.length = 0 := by rw [List.map_eq_nil_iff.1 e2]; rfl
          exact ⟨none, 0, by rw [e1, this]⟩
        · rw [List.length_map] at e; exact ⟨_, _, e⟩
      obtain ⟨ao, co, rfl⟩ := hform
      go_wp2_with fail
      go_ret
      exact ⟨ao, co, l', rfl, hp, hord, by rw [List.length_map]; exact hout, hofr, hK⟩

theorem allT_o (w : World) (p : Nat) (S : Nat → Prop) (L : List (Thing Tm)) (next : Int) (h : IsHeapT w p S L next) (hbig : L.length ≤ 1000000) :
    Calls Try.prog 112 #[.pointer (some ⟨p, 0, none⟩)] w (AllOfT w L) := by
  obtain ⟨lv, mb, s, hm, ho, hp, _⟩ := h
  refine (allT_raw w _ s.a (sortedT_c w p mb lv s next hm (by rw [hp.length_eq]; exact hbig)) (by rw [hp.length_eq]; exact hbig)).mono ?_
  rintro e w' ⟨a, c, l', h1, h2, h3⟩
  exact ⟨a, c, l', h1, h2.trans hp, h3⟩

end Go.Proofs.Ytofdcmbjcpfabaa
