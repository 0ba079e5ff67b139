/- Tables of timers: Due. -/
import Derived.Test.YtofdcmbjcpfabaaTmW
namespace Go.Proofs.Ytofdcmbjcpfabaa
open Go.RowKit Go.Maps Go.MapKept Go.ChangeMaps
attribute [local go_sem ↓] Go.wp_at_zero Go.wp_at_succ

def encTm (v : Tm) : List Value := [.int .i64 v.due, .string v.owner, .int .i64 v.id]
theorem encTm_len (v : Tm) : (encTm v).length = 3 := rfl
theorem infoTm : (Try.prog.info? 53).map (fun i => (i.zero, i.size, i.bytes)) = some (some (.agg #[.int .i64 0, .string ⟨#[]⟩, .int .i64 0]), 3, 32) := by kernel_rfl

section
variable {L L' L'' R : List (Thing Tm)} {f : ByteArray × Int → Option Int} {x : Thing Tm}

theorem Names.del (h : Names L f) (hp : L.Perm (x :: L')) (hn : (L.map Thing.num).Nodup) : Names L' (fdel f (x.v.owner, x.v.id)) := by
  have hm : ∀ y, y ∈ L ↔ y = x ∨ y ∈ L' := fun y => by rw [hp.mem_iff, List.mem_cons]
  have hnd := (hp.map Thing.num).nodup_iff.1 hn
  rw [List.map_cons, List.nodup_cons] at hnd
  have hx : f (x.v.owner, x.v.id) = some x.num := (h _ _ _).2 ⟨x, (hm x).2 (.inl rfl), rfl, rfl, rfl⟩
  intro o i k
  by_cases e : (o, i) = (x.v.owner, x.v.id)
  · rw [e, fdel_same]
    cases e
    refine ⟨fun h => (by cases h), ?_⟩
    rintro ⟨y, hy, q1, q2, q3⟩
    have : f (x.v.owner, x.v.id) = some y.num := (h _ _ _).2 ⟨y, (hm y).2 (.inr hy), rfl, q2, q3⟩
    rw [hx] at this
    exact absurd (List.mem_map.2 ⟨y, hy, (Option.some.inj this).symm⟩) hnd.1
  · rw [fdel_other _ e, h o i k]
    constructor
    · rintro ⟨y, hy, q1, q2, q3⟩
      rcases (hm y).1 hy with rfl | hy
      · exact absurd (by rw [← q2, ← q3]) e
      · exact ⟨y, hy, q1, q2, q3⟩
    · rintro ⟨y, hy, q⟩
      exact ⟨y, (hm y).2 (.inr hy), q⟩

/-- R has come out of L, in its order, up to now; L' is still there. -/
structure DueTo (now : Int) (L R L' : List (Thing Tm)) : Prop where
  perm : L.Perm (R ++ L')
  ord : R.Pairwise Thing.le
  le : ∀ x ∈ R, x.key ≤ now ∧ ∀ y ∈ L', x.le y

theorem DueTo.start (now : Int) (L : List (Thing Tm)) : DueTo now L [] L := ⟨List.Perm.refl _, List.Pairwise.nil, by simp⟩

theorem DueTo.step {now : Int} (h : DueTo now L R L') (hf : FirstOf x L') (hp : L'.Perm (x :: L'')) (hx : x.key ≤ now) : DueTo now L (R ++ [x]) L'' := by
  have hm : ∀ y ∈ L'', y ∈ L' := fun y hy => hp.mem_iff.2 (List.mem_cons_of_mem _ hy)
  refine ⟨?_, ?_, ?_⟩
  · refine h.perm.trans ((hp.append_left R).trans ?_)
    simp
  · rw [List.pairwise_append]
    refine ⟨h.ord, List.pairwise_singleton _ _, fun a ha b hb => ?_⟩
    rw [List.mem_singleton.1 hb]
    exact (h.le a ha).2 x hf.1
  · intro a ha
    rcases List.mem_append.1 ha with ha | ha
    · exact ⟨(h.le a ha).1, fun y hy => (h.le a ha).2 y (hm y hy)⟩
    · rw [List.mem_singleton.1 ha]
      exact ⟨hx, fun y hy => hf.2 y (hm y hy)⟩

end

/-- How many things the table at p has. -/
def timersAt (w : World) (p : Nat) : Nat := match w.cell? ⟨p, 0, none⟩ with
  | some (.pointer (some a)) => (match w.cell? ⟨a.block, 1, none⟩ with | some (.slice _ n _) => n | _ => 0)
  | _ => 0

theorem IsTable.count {w : World} {p : Nat} {S : Nat → Prop} {L : List (Thing Tm)} {n : Int} (h : IsTable w p S L n) : timersAt w p = L.length := by
  obtain ⟨hp, S1, mb, f, h1, h2, _⟩ := h
  obtain ⟨lv, mb', s, hm, _, hpp, _⟩ := h2
  obtain ⟨_, c, _⟩ := hm.fields
  obtain ⟨a, cap, rfl⟩ := hm.len
  have c0 : w.cell? ⟨p, 0, none⟩ = some (.pointer (some ⟨hp, 0, none⟩)) := by rw [cell_of_row _ _ _ _ _ _ h1]; rfl
  unfold timersAt
  rw [c0]
  simp only
  rw [c, ← hpp.length_eq]

set_option maxRecDepth 100000 in
set_option maxHeartbeats 2000000 in
theorem due_o (w : World) (p : Nat) (S : Nat → Prop) (L : List (Thing Tm)) (next : Int) (h : IsTable w p S L next) (now : Int) (hL : L.length ≤ 100000) :
    Calls Try.prog 34 #[.pointer (some ⟨p, 0, none⟩), .int .i64 now] w fun e w' =>
      ∃ R L' lv, e = .returned lv ∧ RowV w' 53 3 encTm lv (R.map Thing.v) ∧ (∀ b, lv.ownBlock = some b → w.heap.size ≤ b) ∧ DueTo now L R L' ∧ (∀ y ∈ L', now < y.key) ∧ IsTable w' p S L' next ∧ Moves S w S w' := by
  go_enter Try.func34, Try.ntmps34
  go_wp2_with fail
  refine (next_o w p S L next h).mono ?_
  rintro e w1 ⟨⟨d, b, hn, rfl⟩, k1⟩
  go_wp2_with fail
  go_loopw [5, 6, 7] (fun sv dv bv wr => ∃ lv R L' d b, sv = lv ∧ dv = .int .i64 d ∧ bv = .bool b ∧ NextOf L' d b ∧ RowV wr 53 3 encTm lv (R.map Thing.v) ∧ (∀ b, lv.ownBlock = some b → w.heap.size ≤ b) ∧ DueTo now L R L' ∧ IsTable wr p S L' next ∧ Moves S w S wr) (fun _ _ _ wr => timersAt wr p)
  case atStart => exact ⟨_, [], L, d, b, rfl, rfl, rfl, hn, RowV.nil _ _ _ _, (fun b hb => by cases hb), DueTo.start _ _, h.keep k1 (fun _ _ x => x), k1.of_none, fun _ hk => .inl hk⟩
  case round =>
    obtain ⟨lv, R, L', d, b, rfl, rfl, rfl, hn, hrow, hfr, hdue, hT, hm⟩ := hrel
    by_cases hb : b = true ∧ d ≤ now
    · obtain ⟨rfl, hd⟩ := hb
      have hcnt := hT.count
      obtain ⟨hp, S1, mb, f, h1, h2, h3, h4, h5, h6, h7, h8, rfl⟩ := id hT
      have c0 : wr.cell? ⟨p, 0, none⟩ = some (.pointer (some ⟨hp, 0, none⟩)) := by rw [cell_of_row _ _ _ _ _ _ h1]; rfl
      have hpop : Calls Try.prog 97 #[.pointer (some ⟨hp, 0, none⟩)] wr fun e w' => ∃ x L'', FirstOf x L' ∧ d = x.key ∧ L'.Perm (x :: L'') ∧ e = .returned (.tuple #[.int .i64 x.key, .agg #[.int .i64 x.v.due, .string x.v.owner, .int .i64 x.v.id], .int .i64 x.num, .bool true]) ∧ IsHeapT w' hp S1 L'' next ∧ Moves S1 wr S1 w' := by
        refine (popT_o wr hp S1 L' next h2).mono ?_
        rintro e w' ⟨⟨hn0, _⟩ | ⟨x, L'', q1, q2, q3, q4⟩, q5⟩
        · rcases hn with ⟨_, _, hb⟩ | ⟨x, hf, _⟩
          · cases hb
          · rw [hn0] at hf; cases hf.1
        · refine ⟨x, L'', q1, ?_, q2, q3, q4, q5⟩
          rcases hn with ⟨_, _, hb⟩ | ⟨y, hf, rfl, _⟩
          · cases hb
          · have a1 := hf.2 x q1.1
            have a2 := q1.2 y hf.1
            unfold Thing.le at a1 a2
            omega
      go_wp2_with fail
      refine hpop.mono ?_
      rintro e w1 ⟨x, L'', hf, rfl, hp2, rfl, hh, hm1⟩
      obtain ⟨C, hC⟩ : ∃ C, w1.heap.size = C := ⟨_, rfl⟩
      go_wp2_with fail
      refine name_world ?_
      intro w2 hw2
      have hCr : wr.heap.size ≤ C := by rw [← hC]; exact hm1.keeps.size
      have k2 : Keeps S1 wr w2 := by subst hw2; exact hm1.keeps.alloc _
      have t2 : w2.heap[C]? = some (.cells #[.int .i64 x.v.due, .string x.v.owner, .int .i64 x.v.id] 53 (0, 0)) := by subst hw2 hC; exact (heap_alloc_new _ _).trans (by rfl)
      have hs2 : w2.heap.size = C + 1 := by subst hw2 hC; simp
      have hh2 : IsHeapT w2 hp S1 L'' next := by subst hw2; exact hh.keep ((Keeps.refl NoBlk w1).alloc _) (fun _ _ x => x)
      have p2 := (k2.block p (block_lt h1) h7).trans h1
      have h32 := h3.at_block (k2.block mb h3.lt h8)
      have c1 : w2.cell? ⟨p, 1, none⟩ = some (.map (some mb)) := by rw [cell_of_row _ _ _ _ _ _ p2]; rfl
      have t0 : w2.cell? ⟨C, 0, none⟩ = some (.int .i64 x.v.due) := by rw [cell_of_row _ _ _ _ _ _ t2]; rfl
      have t1 : w2.cell? ⟨C, 1, none⟩ = some (.string x.v.owner) := by rw [cell_of_row _ _ _ _ _ _ t2]; rfl
      have t3 : w2.cell? ⟨C, 2, none⟩ = some (.int .i64 x.v.id) := by rw [cell_of_row _ _ _ _ _ _ t2]; rfl
      have hxl := h5 x hf.1
      obtain ⟨l, hkey⟩ := keyOf_name (o := x.v.owner) (i := x.v.id) hxl.2.2.2 (WalkArith.wf_i64 (by omega))
      obtain ⟨ob, hdel⟩ := h32.drop keyN Try.underlying106 nameInj hkey 0
      obtain ⟨hrun, hmap⟩ := hdel w2.drew rfl
      have hrun' : (Builtin.delete_ #[106, 166] 0 #[.map (some mb), .agg #[.string x.v.owner, .int .i64 x.v.id]]).run Try.prog w2.drew = .ok (.tuple #[]) (setBlock w2.drew mb ob) := hrun
      have hpm : ¬ p = mb := fun e => by subst e; obtain ⟨es, cl, hh, _⟩ := h3; rw [h1] at hh; cases hh
      have hmC : ¬ mb = C := by have := h3.lt; omega
      have hpC : ¬ p = C := by have := block_lt h1; omega
      have keepS : ∀ w' : World, w'.heap[p]? = w2.heap[p]? → w'.heap[C]? = w2.heap[C]? → w'.cell? ⟨p, 1, none⟩ = some (.map (some mb)) ∧ w'.cell? ⟨C, 1, none⟩ = some (.string x.v.owner) ∧ w'.cell? ⟨C, 2, none⟩ = some (.int .i64 x.v.id) := fun w' e e' =>
        ⟨(World.cell?_of_block (a := ⟨p, 1, none⟩) e).trans c1, (World.cell?_of_block (a := ⟨C, 1, none⟩) e').trans t1, (World.cell?_of_block (a := ⟨C, 2, none⟩) e').trans t3⟩
      clear hw2 hdel hrun hpop hC
      go_region_held3 (fun w' => w'.cell? ⟨p, 1, none⟩ = some (.map (some mb)) ∧ w'.cell? ⟨C, 1, none⟩ = some (.string x.v.owner) ∧ w'.cell? ⟨C, 2, none⟩ = some (.int .i64 x.v.id)) (first | exact keepS _ rfl rfl | exact keepS _ (heap_setBlock_ne _ _ _ _ hpm) (heap_setBlock_ne _ _ _ _ (fun e => hmC e.symm))) (fail)
      generalize hw3 : setBlock w2.drew mb ob = w3
      rw [hw3] at hmap
      have hb3 : ∀ k, k ≠ mb → w3.heap[k]? = w2.heap[k]? := fun k hk => by subst hw3; exact heap_setBlock_ne _ _ _ _ hk
      have k3 : Keeps (fun k => k = mb) w2 w3 := by subst hw3; exact ((Keeps.refl (fun k => k = mb) w2).drew).setBlock (fun _ => rfl) _
      have hs3 : w3.heap.size = C + 1 := by subst hw3; simp [hs2]
      have hfx : f (x.v.owner, x.v.id) = some x.num := (h4 _ _ _).2 ⟨x, hf.1, rfl, rfl, rfl⟩
      rw [hfx, show (if (some x.num).isSome = true then L'.length - 1 else L'.length) = L''.length by simp [hp2.length_eq]] at hmap
      have hnd := (hp2.map Thing.num).nodup_iff.1 h6
      rw [List.map_cons, List.nodup_cons] at hnd
      have hT3 : IsTable w3 p (fun k => k = p ∨ k = mb ∨ S1 k) L'' next :=
        ⟨hp, S1, mb, _, (hb3 p hpm).trans p2, hh2.keep k3 (fun k hk e => h8 (e ▸ hk)), hmap, h4.del hp2 h6, fun y hy => h5 y (hp2.mem_iff.2 (List.mem_cons_of_mem _ hy)), hnd.2, h7, h8, rfl⟩
      have hm3 : Moves (fun k => k = p ∨ k = mb ∨ S1 k) w (fun k => k = p ∨ k = mb ∨ S1 k) w3 :=
        hm.trans ⟨(k2.mono (fun _ _ h => .inr (.inr h))).trans k3 (fun _ _ e => .inr (.inl e)), fun _ h => .inl h⟩
      have hlv : ∀ b, u5.ownBlock = some b → b < wr.heap.size ∧ ¬ (b = p ∨ b = mb ∨ S1 b) := fun b hb => ⟨(World.ownsRow.lt hrow b hb).2, fun hS => by have := hm.keeps.size; have := hfr b hb; have := h.lt b hS; omega⟩
      have hrow3 : RowV w3 53 3 encTm u5 (R.map Thing.v) := hrow.at_block (fun b hb => by
        obtain ⟨q1, q2⟩ := hlv b hb
        rw [hb3 b (fun e => q2 (.inr (.inl e))), k2.block b q1 (fun e => q2 (.inr (.inr e)))])
      have t4 := (hb3 C (fun e => hmC e.symm)).trans t2
      have hdue3 := hdue.step hf hp2 hd
      have hRl : R.length ≤ 100000 := by have := hdue.perm.length_eq; simp at this; omega
      have hRl' : (R.map Thing.v).length = R.length := by simp
      have hL3 : L''.length < L'.length := by have := hp2.length_eq; simp at this; omega
      clear hw3 hrun' hmap keepS c1 t0 t1 t3 t2 hh2 h32 p2 hs2 k2 k3 hb3 hm1 hfx hnd hkey hrow hT hm c0 h1 h2 h3 h4 h5 h6 hh hdue hf hp2 hn hd
      have t0 : w3.cell? ⟨C, 0, none⟩ = some (.int .i64 x.v.due) := by rw [cell_of_row _ _ _ _ _ _ t4]; rfl
      have t1 : w3.cell? ⟨C, 1, none⟩ = some (.string x.v.owner) := by rw [cell_of_row _ _ _ _ _ _ t4]; rfl
      have t3 : w3.cell? ⟨C, 2, none⟩ = some (.int .i64 x.v.id) := by rw [cell_of_row _ _ _ _ _ _ t4]; rfl
      obtain ⟨i0, hi, hz0, hz1, hz2⟩ := info_parts infoTm
      go_wp2_with (at_builtin; refine wpList_append_lies _ (by rfl) (.tmp 47) (.tmp 49) 50 (by rfl) 0 53 i0 (.agg #[.int .i64 0, .string ⟨#[]⟩, .int .i64 0]) 3 32 Try.underlying50 hi hz0 hz1 hz2 (by rfl) (by decide) u5 R.length ((R.map Thing.v).flatMap encTm) (by rfl) ?hown ⟨C + 1, 0, none⟩ 1 1 (encTm x.v) (by rfl) (by rfl) ?news ?h1 (by decide) ?b63 ?bby (Nat.zero_le _) (C + 2) (by simp [hs3]) ?k)
      case hown =>
        have : RowV (w3.alloc (.cells #[.int .i64 x.v.due, .string x.v.owner, .int .i64 x.v.id] 53 (0, 0))) 53 3 encTm u5 (R.map Thing.v) := hrow3.at_block (fun b hb => Below.heap_alloc _ _ _ (by have := (hlv b hb).1; omega))
        unfold RowV at this
        rw [hRl'] at this
        exact this
      case news =>
        refine World.news_of_block (cs := #[.int .i64 x.v.due, .string x.v.owner, .int .i64 x.v.id]) (t := 53) (fr := (0, 0)) ?_
        rw [← hs3]
        exact (heap_alloc_new _ _).trans (by rfl)
      case h1 => intro u hu; simp [encTm] at hu; rcases hu with rfl | rfl | rfl <;> rfl
      case b63 => unfold maxLen; omega
      case bby => omega
      case k =>
        intro g cap w4 hown hgrow hat hlt
        have k4 : Keeps (fun k => u5.ownBlock = some k) w3 w4 := ((Keeps.refl (fun k => u5.ownBlock = some k) w3).alloc _).grown hgrow (fun k e _ => e)
        have hT4 := hT3.keep k4 (fun k hk e => (hlv k e).2 hk)
        have hm4 : Moves (fun k => k = p ∨ k = mb ∨ S1 k) w (fun k => k = p ∨ k = mb ∨ S1 k) w4 :=
          ⟨hm3.keeps.trans k4 (fun k hk e => by have := hfr k e; omega), hm3.foot⟩
        have hrow4 : RowV w4 53 3 encTm (.slice (some ⟨g, 0, none⟩) (R.length + 1) cap) ((R ++ [x]).map Thing.v) := by
          unfold RowV
          rw [List.map_append, List.flatMap_append, List.length_append, hRl']
          simpa using hown
        have hfr4 : ∀ b, (Value.slice (some ⟨g, 0, none⟩) (R.length + 1) cap).ownBlock = some b → w.heap.size ≤ b := fun b hb => by
          cases hb
          rcases hat with e | e
          · exact hfr _ e
          · have := hm3.keeps.size; show w.heap.size ≤ g; omega
        have hcnt4 := hT4.count
        clear hown hgrow hT3 hm3 k4 t0 t1 t3 t4 hrow3
        go_wp2_with fail
        refine (next_o w4 p _ L'' next hT4).mono ?_
        rintro e w5 ⟨⟨d', b', hn', rfl⟩, k5⟩
        have hT5 := hT4.keep k5 (fun _ _ x => x)
        have hrow5 : RowV w5 53 3 encTm (.slice (some ⟨g, 0, none⟩) (R.length + 1) cap) ((R ++ [x]).map Thing.v) := hrow4.at_block (fun b hb => k5.block b (by cases hb; exact hlt) id)
        have hcnt5 := hT5.count
        go_wp2_with fail
        go_roundw
        case rel => exact ⟨_, R ++ [x], L'', d', b', rfl, rfl, rfl, hn', hrow5, hfr4, hdue3, hT5, ⟨hm4.keeps.trans k5 (fun _ _ x => x.elim), hm4.foot⟩⟩
        case measure => omega
    · have hend : ∀ y ∈ L', now < y.key := fun y hy => by
        rcases hn with ⟨rfl, _⟩ | ⟨x, hf, rfl, rfl⟩
        · cases hy
        · have := hf.2 y hy
          unfold Thing.le at this
          have : ¬ x.key ≤ now := fun e => hb ⟨rfl, e⟩
          omega
      cases b with
      | false =>
        go_wp2_with fail
        go_ret
        exact ⟨R, L', _, rfl, hrow, hfr, hdue, hend, hT, hm⟩
      | true =>
        have hd : ¬ d ≤ now := fun e => hb ⟨rfl, e⟩
        go_wp2_with fail
        go_ret
        exact ⟨R, L', _, rfl, hrow, hfr, hdue, hend, hT, hm⟩

end Go.Proofs.Ytofdcmbjcpfabaa
