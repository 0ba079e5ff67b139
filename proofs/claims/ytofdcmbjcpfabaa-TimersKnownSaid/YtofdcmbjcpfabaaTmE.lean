/- Tables of timers: Drop, All, DropAll, Twin. -/
import Derived.Test.YtofdcmbjcpfabaaTmD
import Derived.Test.YtofdcmbjcpfabaaHeapKT
namespace Go.Proofs.Ytofdcmbjcpfabaa
open Go.RowKit Go.Maps Go.MapKept Go.ChangeMaps
attribute [local go_sem ↓] Go.wp_at_zero Go.wp_at_succ

theorem IsHeapT.next_le {w : World} {p : Nat} {S : Nat → Prop} {L : List (Thing Tm)} {next : Int} (h : IsHeapT w p S L next) : next ≤ 1000000000 := by
  obtain ⟨lv, mb, s, _, _, _, _, _, h5, _⟩ := h
  exact h5

theorem num_inj {L : List (Thing Tm)} (hn : (L.map Thing.num).Nodup) {x y : Thing Tm} (hx : x ∈ L) (hy : y ∈ L) (e : x.num = y.num) : x = y := by
  obtain ⟨i, hi⟩ := List.mem_iff_getElem?.1 hx
  obtain ⟨j, hj⟩ := List.mem_iff_getElem?.1 hy
  have hil := (List.getElem?_eq_some_iff.1 hi).1
  have hjl := (List.getElem?_eq_some_iff.1 hj).1
  rw [List.getElem?_eq_getElem hil] at hi
  rw [List.getElem?_eq_getElem hjl] at hj
  have hp : L.Pairwise (fun a b => a.num ≠ b.num) := List.pairwise_map.1 hn
  rw [List.pairwise_iff_getElem] at hp
  rcases Nat.lt_trichotomy i j with h | h | h
  · have := hp i j hil hjl h
    rw [Option.some.inj hi, Option.some.inj hj] at this
    exact absurd e this
  · subst h; exact (Option.some.inj hi).symm.trans (Option.some.inj hj)
  · have := hp j i hjl hil h
    rw [Option.some.inj hi, Option.some.inj hj] at this
    exact absurd e.symm this

/-- What Drop does. -/
def DropT (w : World) (p : Nat) (S : Nat → Prop) (L : List (Thing Tm)) (next : Int) (o : ByteArray) (i : Int) (e : Ending) (w' : World) : Prop :=
  ((∀ x ∈ L, ¬ (x.v.owner = o ∧ x.v.id = i)) ∧ e = .returned (.bool false) ∧ IsTable w' p S L next ∧ Moves S w S w') ∨
  (∃ x L', L.Perm (x :: L') ∧ x.v.owner = o ∧ x.v.id = i ∧ e = .returned (.bool true) ∧ IsTable w' p S L' next ∧ Moves S w S w')

set_option maxRecDepth 100000 in
set_option maxHeartbeats 4000000 in
theorem drop_o (w : World) (p : Nat) (S : Nat → Prop) (L : List (Thing Tm)) (next : Int) (h : IsTable w p S L next) (o : ByteArray) (i : Int) (ho : o.size ≤ maxLen) (hi : (Lit.int .i64 i).wf = true) :
    Calls Try.prog 40 #[.pointer (some ⟨p, 0, none⟩), .string o, .int .i64 i] w (DropT w p S L next o i) := by
  have h0 := h
  have hmade := made_o w p S L next h
  obtain ⟨hp, S1, mb, f, h1, h2, h3, h4, h5, h6, h7, h8, rfl⟩ := h
  obtain ⟨B, hB⟩ : ∃ B, w.heap.size = B := ⟨_, rfl⟩
  obtain ⟨l, hkey⟩ := keyOf_name ho hi
  go_enter Try.func40, Try.ntmps40
  go_wp2_with fail
  refine hmade.mono ?_
  rintro e w1 ⟨rfl, rfl⟩
  go_wp2_with fail
  refine name_world ?_
  intro w1 hw1
  have k1 : Keeps NoBlk w w1 := by subst hw1; exact (Keeps.refl _ _).alloc _
  have hs1 : w1.heap.size = B + 1 := by subst hw1 hB; simp
  have b2 : w1.heap[B]? = some (.cells #[.string o, .int .i64 i] 166 (0, 0)) := by subst hw1 hB; exact (heap_alloc_new _ _).trans (by rfl)
  have b0 : w1.cell? ⟨B, 0, none⟩ = some (.string o) := by rw [cell_of_row _ _ _ _ _ _ b2]; rfl
  have b1 : w1.cell? ⟨B, 1, none⟩ = some (.int .i64 i) := by rw [cell_of_row _ _ _ _ _ _ b2]; rfl
  have p1 := (k1.block p (block_lt h1) id).trans h1
  have c0 : w1.cell? ⟨p, 0, none⟩ = some (.pointer (some ⟨hp, 0, none⟩)) := by rw [cell_of_row _ _ _ _ _ _ p1]; rfl
  have c1 : w1.cell? ⟨p, 1, none⟩ = some (.map (some mb)) := by rw [cell_of_row _ _ _ _ _ _ p1]; rfl
  have h31 := h3.at_block (k1.block mb h3.lt id)
  have hlk : ∀ n, (Instr.lookup 106 (.map (some mb)) (.agg #[.string o, .int .i64 i]) true).run Try.prog (w1.drewN n) = .ok (.tuple #[.int .i64 ((f (o, i)).getD 0), .bool (f (o, i)).isSome]) (w1.drewN n) := fun n => by
    have := (h31.at_block (w' := w1.drewN n) rfl).look true keyN Try.underlying106 (zeroInt _ : (zeroValue 3).run Try.prog (w1.drewN n) = .ok (.int .i64 0) (w1.drewN n)) nameInj hkey
    rw [if_pos rfl] at this
    refine this.trans ?_
    cases f (o, i) <;> rfl
  have hlk0 : (Instr.lookup 106 (.map (some mb)) (.agg #[.string o, .int .i64 i]) true).run Try.prog w1 = .ok (.tuple #[.int .i64 ((f (o, i)).getD 0), .bool (f (o, i)).isSome]) w1 := hlk 0
  have hlk1 : (Instr.lookup 106 (.map (some mb)) (.agg #[.string o, .int .i64 i]) true).run Try.prog w1.drew = .ok (.tuple #[.int .i64 ((f (o, i)).getD 0), .bool (f (o, i)).isSome]) w1.drew := hlk 1
  clear hw1
  go_quiet (fail)
  have hpB : ¬ p = B := by have := block_lt h1; omega
  have hmB : ¬ mb = B := by have := h3.lt; omega
  have hpm : ¬ p = mb := fun e => by subst e; obtain ⟨es, cl, hh, _⟩ := h3; rw [h1] at hh; cases hh
  generalize hw2 : w1.drewN nq = w2
  have k2 : Keeps NoBlk w w2 := by subst hw2; exact k1.drewN nq
  have hs2 : w2.heap.size = B + 1 := by subst hw2; exact hs1
  have bb : w2.heap[B]? = some (.cells #[.string o, .int .i64 i] 166 (0, 0)) := by subst hw2; exact b2
  have p2 : w2.heap[p]? = some (.cells #[.pointer (some ⟨hp, 0, none⟩), .map (some mb)] 108 (0, 0)) := by subst hw2; exact p1
  have h32 : MapFn w2 Try.prog 166 ekN (Value.int .i64) mb L.length f := by subst hw2; exact h31
  have h22 : IsHeapT w2 hp S1 L next := h2.keep k2 (fun _ _ x => x)
  clear hw2 hlk hlk0 hlk1 b0 b1 c0 c1 b2 p1 h31 k1 hs1
  have c0 : w2.cell? ⟨p, 0, none⟩ = some (.pointer (some ⟨hp, 0, none⟩)) := by rw [cell_of_row _ _ _ _ _ _ p2]; rfl
  cases hf : f (o, i) with
  | none =>
    dsimp only [Option.isSome, Option.getD]
    have hno := h4.none hf
    go_wp2_with fail
    go_ret
    exact .inl ⟨hno, rfl, h0.keep k2 (fun _ _ x => x), k2.of_none, fun _ hk => .inl hk⟩
  | some k =>
    dsimp only [Option.isSome, Option.getD]
    obtain ⟨x, hx, hxk, hxo, hxi⟩ := (h4 o i k).1 hf
    have hkn : 0 ≤ k ∧ k < 9000000000000000000 := by
      have := h22.num x hx
      have := h22.next_le
      omega
    have hrem := removeT_o w2 hp S1 L next h22 k (WalkArith.wf_i64 (by omega))
    go_wp2_with fail
    refine hrem.mono ?_
    intro e w3 hpr
    obtain ⟨hpr, hm1⟩ := hpr
    obtain ⟨hno, _⟩ | ⟨x', L', hxn', hp2, rfl, hh⟩ := hpr
    · exact absurd hxk (hno x hx)
    · obtain rfl : x' = x := num_inj h6 (hp2.mem_iff.2 List.mem_cons_self) hx (hxn'.trans hxk.symm)
      have k3 : Keeps S1 w w3 := k2.of_none.trans hm1.keeps (fun _ _ x => x)
      have hS1B : ¬ S1 B := fun hs => by have := h2.lt B hs; omega
      have p3 := (hm1.keeps.block p (block_lt p2) h7).trans p2
      have bb3 := (hm1.keeps.block B (block_lt bb) hS1B).trans bb
      have h33 := h32.at_block (hm1.keeps.block mb h32.lt h8)
      have c1 : w3.cell? ⟨p, 1, none⟩ = some (.map (some mb)) := by rw [cell_of_row _ _ _ _ _ _ p3]; rfl
      have t0 : w3.cell? ⟨B, 0, none⟩ = some (.string o) := by rw [cell_of_row _ _ _ _ _ _ bb3]; rfl
      have t1 : w3.cell? ⟨B, 1, none⟩ = some (.int .i64 i) := by rw [cell_of_row _ _ _ _ _ _ bb3]; rfl
      obtain ⟨ob, hdel⟩ := h33.drop keyN Try.underlying106 nameInj hkey 0
      obtain ⟨hrun, hmap⟩ := hdel w3.drew rfl
      have hrun' : (Builtin.delete_ #[106, 166] 0 #[.map (some mb), .agg #[.string o, .int .i64 i]]).run Try.prog w3.drew = .ok (.tuple #[]) (setBlock w3.drew mb ob) := hrun
      have keepS : ∀ w' : World, w'.heap[p]? = w3.heap[p]? → w'.heap[B]? = w3.heap[B]? → w'.cell? ⟨p, 1, none⟩ = some (.map (some mb)) ∧ w'.cell? ⟨B, 0, none⟩ = some (.string o) ∧ w'.cell? ⟨B, 1, none⟩ = some (.int .i64 i) := fun w' e e' =>
        ⟨(World.cell?_of_block (a := ⟨p, 1, none⟩) e).trans c1, (World.cell?_of_block (a := ⟨B, 0, none⟩) e').trans t0, (World.cell?_of_block (a := ⟨B, 1, none⟩) e').trans t1⟩
      have hfx : f (o, i) = some k := hf
      clear hdel hrun hrem hf
      go_wp2_with fail
      go_region_held3 (fun w' => w'.cell? ⟨p, 1, none⟩ = some (.map (some mb)) ∧ w'.cell? ⟨B, 0, none⟩ = some (.string o) ∧ w'.cell? ⟨B, 1, none⟩ = some (.int .i64 i)) (first | exact keepS _ rfl rfl | exact keepS _ (heap_setBlock_ne _ _ _ _ hpm) (heap_setBlock_ne _ _ _ _ (fun e => hmB e.symm))) (fail)
      generalize hw4 : setBlock w3.drew mb ob = w4
      rw [hw4] at hmap
      have hb4 : ∀ k, k ≠ mb → w4.heap[k]? = w3.heap[k]? := fun k hk => by subst hw4; exact heap_setBlock_ne _ _ _ _ hk
      have k4 : Keeps (fun k => k = mb) w3 w4 := by subst hw4; exact ((Keeps.refl (fun k => k = mb) w3).drew).setBlock (fun _ => rfl) _
      rw [hfx, show (if (some k).isSome = true then L.length - 1 else L.length) = L'.length by simp [hp2.length_eq]] at hmap
      have hnd := (hp2.map Thing.num).nodup_iff.1 h6
      rw [List.map_cons, List.nodup_cons] at hnd
      have hT : IsTable w4 p (fun k => k = p ∨ k = mb ∨ S1 k) L' next :=
        ⟨hp, S1, mb, _, (hb4 p hpm).trans p3, hh.keep k4 (fun k hk e => h8 (e ▸ hk)), hmap, by have := h4.del hp2 h6; rw [hxo, hxi] at this; exact this, fun y hy => h5 y (hp2.mem_iff.2 (List.mem_cons_of_mem _ hy)), hnd.2, h7, h8, rfl⟩
      have hm : Moves (fun k => k = p ∨ k = mb ∨ S1 k) w (fun k => k = p ∨ k = mb ∨ S1 k) w4 :=
        ⟨(k3.mono (fun _ _ h => .inr (.inr h))).trans k4 (fun _ _ e => .inr (.inl e)), fun _ h => .inl h⟩
      clear hw4 hrun' hmap keepS c1 t0 t1 hh h32 h33 p2 p3 k2 k3 hb4 k4
      go_wp2_with fail
      go_ret
      exact .inr ⟨_, L', hp2, hxo, hxi, rfl, hT, hm⟩

end Go.Proofs.Ytofdcmbjcpfabaa
