/- Tables of timers: what each call does. -/
import Derived.Test.YtofdcmbjcpfabaaTmKeys
import Derived.Test.YtofdcmbjcpfabaaOpen
namespace Go.Proofs.Ytofdcmbjcpfabaa
open Go.RowKit Go.Maps Go.MapKept Go.ChangeMaps
attribute [local go_sem ↓] Go.wp_at_zero Go.wp_at_succ

theorem IsHeapT.num {w : World} {p : Nat} {S : Nat → Prop} {L : List (Thing Tm)} {next : Int} (h : IsHeapT w p S L next) : ∀ x ∈ L, 0 ≤ x.num ∧ x.num < next := by
  obtain ⟨lv, mb, s, _, _, _, h3, _⟩ := h
  exact h3

/-- Which number a name has. -/
def Names (L : List (Thing Tm)) (f : ByteArray × Int → Option Int) : Prop :=
  ∀ o i k, f (o, i) = some k ↔ ∃ x ∈ L, x.num = k ∧ x.v.owner = o ∧ x.v.id = i

/-- What holds of a table's things. -/
def Lawful (L : List (Thing Tm)) : Prop := ∀ x ∈ L, x.key = x.v.due ∧ 0 ≤ x.v.id ∧ x.v.id ≤ 9223372036854775807 ∧ x.v.owner.size ≤ maxLen

/-- A table at p, its blocks S, whose timers are L (in whatever order), the heap's next number next. -/
def IsTable (w : World) (p : Nat) (S : Nat → Prop) (L : List (Thing Tm)) (next : Int) : Prop :=
  ∃ hp S1 mb f, w.heap[p]? = some (.cells #[.pointer (some ⟨hp, 0, none⟩), .map (some mb)] 108 (0, 0)) ∧ IsHeapT w hp S1 L next ∧
    MapFn w Try.prog 166 ekN (Value.int .i64) mb L.length f ∧ Names L f ∧ Lawful L ∧ (L.map Thing.num).Nodup ∧ ¬ S1 p ∧ ¬ S1 mb ∧ S = (fun k => k = p ∨ k = mb ∨ S1 k)

section
variable {w w' : World} {p : Nat} {S : Nat → Prop} {L : List (Thing Tm)} {next : Int}

theorem IsTable.lt (h : IsTable w p S L next) : ∀ k, S k → k < w.heap.size := by
  obtain ⟨hp, S1, mb, f, h1, h2, h3, _, _, _, _, _, rfl⟩ := h
  intro k hk
  rcases hk with rfl | rfl | hk
  · exact block_lt h1
  · exact h3.lt
  · exact h2.lt k hk

theorem IsTable.keep (h : IsTable w p S L next) {T : Nat → Prop} (hk : Keeps T w w') (hd : ∀ k, S k → ¬ T k) : IsTable w' p S L next := by
  obtain ⟨hp, S1, mb, f, h1, h2, h3, h4, h5, h6, h7, h8, rfl⟩ := h
  exact ⟨hp, S1, mb, f, (hk.block _ (block_lt h1) (hd _ (.inl rfl))).trans h1, h2.keep hk (fun k hs => hd k (.inr (.inr hs))), h3.at_block (hk.block _ h3.lt (hd _ (.inr (.inl rfl)))), h4, h5, h6, h7, h8, rfl⟩

theorem Names.perm {f : ByteArray × Int → Option Int} (h : Names L f) {L' : List (Thing Tm)} (hp : L.Perm L') : Names L' f := fun o i k => by
  rw [h o i k]
  exact ⟨fun ⟨x, hx, q⟩ => ⟨x, hp.mem_iff.1 hx, q⟩, fun ⟨x, hx, q⟩ => ⟨x, hp.mem_iff.2 hx, q⟩⟩

theorem IsTable.perm (h : IsTable w p S L next) {L' : List (Thing Tm)} (hp : L.Perm L') : IsTable w p S L' next := by
  obtain ⟨q, S1, mb, f, h1, h2, h3, h4, h5, h6, h7, h8, rfl⟩ := h
  exact ⟨q, S1, mb, f, h1, h2.perm hp, by rw [← hp.length_eq]; exact h3, h4.perm hp, fun x hx => h5 x (hp.mem_iff.2 hx), (hp.map Thing.num).nodup_iff.1 h6, h7, h8, rfl⟩
end

set_option maxRecDepth 100000 in
set_option maxHeartbeats 1000000 in
theorem newTable_o (w : World) :
    Calls Try.prog 70 #[] w fun e w' => ∃ p S, e = .returned (.pointer (some ⟨p, 0, none⟩)) ∧ IsTable w' p S [] 0 ∧ Moves NoBlk w S w' := by
  have hmm := @run_makeMap Try.prog
  go_enter Try.func70, Try.ntmps70
  go_wp2_with fail
  refine (newT_o w).mono ?_
  rintro e w1 ⟨hp, S1, rfl, h1, m1⟩
  have hlt := h1.lt
  go_wp2_with fail
  go_ret
  refine ⟨w1.heap.size + 1, _, rfl, ⟨hp, S1, w1.heap.size, fun _ => none, ?_, ?_, ?_, fun o i k => by simp, fun x hx => by simp at hx, by simp, fun h => by have := hlt _ h; omega, fun h => by have := hlt _ h; omega, rfl⟩, ?_⟩
  · rw [heap_alloc2_new]
  · exact h1.keep (((Keeps.refl NoBlk w1).alloc _).alloc _) (fun _ _ x => x)
  · exact MapFn_of_new (by rw [Below.heap_alloc _ _ _ (by simp)]; exact (heap_alloc _ _).1)
  · refine ⟨(m1.keeps.alloc _).alloc _, fun k hk => .inr ?_⟩
    have := m1.keeps.size
    rcases hk with rfl | rfl | hk
    · omega
    · omega
    · exact (m1.foot k hk).resolve_left id

theorem made_o (w : World) (p : Nat) (S : Nat → Prop) (L : List (Thing Tm)) (next : Int) (h : IsTable w p S L next) :
    Calls Try.prog 98 #[.pointer (some ⟨p, 0, none⟩)] w fun e w' => e = .returned (.bool true) ∧ w = w' := by
  obtain ⟨hp, S1, mb, f, h1, _⟩ := h
  have c0 : w.cell? ⟨p, 0, none⟩ = some (.pointer (some ⟨hp, 0, none⟩)) := by rw [cell_of_row _ _ _ _ _ _ h1]; rfl
  go_enter Try.func98, Try.ntmps98
  go_wp2_with fail
  go_ret
  exact ⟨rfl, rfl⟩

theorem lenTable_o (w : World) (p : Nat) (S : Nat → Prop) (L : List (Thing Tm)) (next : Int) (h : IsTable w p S L next) :
    Calls Try.prog 36 #[.pointer (some ⟨p, 0, none⟩)] w fun e w' => e = .returned (.int .i64 L.length) ∧ w = w' := by
  have hmade := made_o w p S L next h
  obtain ⟨hp, S1, mb, f, h1, _, h3, _⟩ := h
  have c1 : w.cell? ⟨p, 1, none⟩ = some (.map (some mb)) := by rw [cell_of_row _ _ _ _ _ _ h1]; rfl
  have hl := h3.len Try.underlying106
  go_enter Try.func36, Try.ntmps36
  go_wp2_with fail
  refine hmade.mono ?_
  rintro e w1 ⟨rfl, rfl⟩
  go_wp2_with fail
  go_ret
  exact ⟨rfl, rfl⟩

/-- What Next tells. -/
def NextOf (L : List (Thing Tm)) (d : Int) (b : Bool) : Prop := (L = [] ∧ d = 0 ∧ b = false) ∨ ∃ x, FirstOf x L ∧ d = x.key ∧ b = true

set_option maxRecDepth 100000 in
set_option maxHeartbeats 1000000 in
theorem next_o (w : World) (p : Nat) (S : Nat → Prop) (L : List (Thing Tm)) (next : Int) (h : IsTable w p S L next) :
    Calls Try.prog 35 #[.pointer (some ⟨p, 0, none⟩)] w fun e w' => (∃ d b, NextOf L d b ∧ e = .returned (.tuple #[.int .i64 d, .bool b])) ∧ Keeps NoBlk w w' := by
  have hmade := made_o w p S L next h
  obtain ⟨hp, S1, mb, f, h1, h2, _⟩ := h
  have c0 : w.cell? ⟨p, 0, none⟩ = some (.pointer (some ⟨hp, 0, none⟩)) := by rw [cell_of_row _ _ _ _ _ _ h1]; rfl
  have hpk := peekT_o w hp S1 L next h2
  have hpk' : Calls Try.prog 99 #[.pointer (some ⟨hp, 0, none⟩)] w fun e w' => (∃ d b o k n j, NextOf L d b ∧ e = .returned (.tuple #[.int .i64 d, .agg #[.int .i64 o, .string k, .int .i64 n], .int .i64 j, .bool b])) ∧ Keeps NoBlk w w' := by
    refine hpk.mono ?_
    rintro e w' ⟨h | ⟨x, hf, rfl⟩, hk⟩
    · exact ⟨⟨0, false, 0, ⟨#[]⟩, 0, 0, .inl ⟨h.1, rfl, rfl⟩, h.2⟩, hk⟩
    · exact ⟨⟨x.key, true, x.v.due, x.v.owner, x.v.id, x.num, .inr ⟨x, hf, rfl, rfl⟩, rfl⟩, hk⟩
  clear hpk
  go_enter Try.func35, Try.ntmps35
  go_wp2_with fail
  refine hmade.mono ?_
  rintro e w1 ⟨rfl, rfl⟩
  go_wp2_with fail
  refine hpk'.mono ?_
  rintro e w1 ⟨⟨d, b, o, k, n, j, hn, rfl⟩, hk⟩
  go_wp2_with fail
  go_ret2
  exact ⟨⟨d, b, hn, rfl⟩, hk.alloc _⟩

theorem Names.none {L : List (Thing Tm)} {f : ByteArray × Int → Option Int} (h : Names L f) {o : ByteArray} {i : Int} (hf : f (o, i) = none) : ∀ x ∈ L, ¬ (x.v.owner = o ∧ x.v.id = i) := fun x hx e => by
  have := (h o i x.num).2 ⟨x, hx, rfl, e⟩
  rw [hf] at this; cases this

set_option maxRecDepth 100000 in
set_option maxHeartbeats 2000000 in
theorem set_o (w : World) (p : Nat) (S : Nat → Prop) (L : List (Thing Tm)) (next : Int) (h : IsTable w p S L next) (due : Int) (o : ByteArray) (i : Int) (ho : o.size ≤ maxLen) (hi : (Lit.int .i64 i).wf = true) (hL : L.length ≤ 100000) (hn : next ≤ 100000000) :
    Calls Try.prog 60 #[.pointer (some ⟨p, 0, none⟩), .int .i64 due, .string o, .int .i64 i] w fun e w' =>
      (i < 0 ∧ e = .returned (.int .i64 1) ∧ IsTable w' p S L next ∧ Moves S w S w') ∨
      (0 ≤ i ∧ (∃ x ∈ L, x.v.owner = o ∧ x.v.id = i) ∧ e = .returned (.int .i64 6) ∧ IsTable w' p S L next ∧ Moves S w S w') ∨
      (0 ≤ i ∧ (∀ x ∈ L, ¬ (x.v.owner = o ∧ x.v.id = i)) ∧ L.length = 4096 ∧ e = .returned (.int .i64 7) ∧ IsTable w' p S L next ∧ Moves S w S w') ∨
      (0 ≤ i ∧ (∀ x ∈ L, ¬ (x.v.owner = o ∧ x.v.id = i)) ∧ L.length ≠ 4096 ∧ e = .returned (.int .i64 0) ∧ ∃ S', IsTable w' p S' (⟨due, next, ⟨due, o, i⟩⟩ :: L) (next + 1) ∧ Moves S w S' w') := by
  have h0 := h
  have hmade := made_o w p S L next h
  obtain ⟨hp, S1, mb, f, h1, h2, h3, h4, h5, h6, h7, h8, rfl⟩ := h
  by_cases hi0 : i < 0
  · go_enter Try.func60, Try.ntmps60
    go_wp2_with fail
    refine hmade.mono ?_
    rintro e w1 ⟨rfl, rfl⟩
    go_wp2_with fail
    go_ret
    exact .inl ⟨hi0, rfl, h0, Moves.refl _ _⟩
  have hi1 : 0 ≤ i := by omega
  obtain ⟨B, hB⟩ : ∃ B, w.heap.size = B := ⟨_, rfl⟩
  have hk := keyOf_name ho hi
  obtain ⟨l, hkey⟩ := hk
  go_enter Try.func60, Try.ntmps60
  go_wp2_with fail
  refine hmade.mono ?_
  rintro e w1 ⟨rfl, rfl⟩
  go_wp2_with fail
  refine name_world ?_
  intro w1 hw1
  have k1 : Keeps NoBlk w w1 := by subst hw1; exact (Keeps.refl _ _).alloc _
  have hs1 : w1.heap.size = B + 1 := by subst hw1 hB; simp
  have b2 : w1.heap[B]? = some (.cells #[.string o, .int .i64 i] 166 (0, 0)) := by subst hw1 hB; exact (heap_alloc_new _ _).trans (by rfl)
  have b0 : w1.cell? ⟨B, 0, none⟩ = some (.string o) := by rw [cell_of_row _ _ _ _ _ _ b2]; rfl
  have b1 : w1.cell? ⟨B, 1, none⟩ = some (.int .i64 i) := by rw [cell_of_row _ _ _ _ _ _ b2]; rfl
  have p1 := (k1.block p (block_lt h1) id).trans h1
  have c0 : w1.cell? ⟨p, 0, none⟩ = some (.pointer (some ⟨hp, 0, none⟩)) := by rw [cell_of_row _ _ _ _ _ _ p1]; rfl
  have c1 : w1.cell? ⟨p, 1, none⟩ = some (.map (some mb)) := by rw [cell_of_row _ _ _ _ _ _ p1]; rfl
  have h31 := h3.at_block (k1.block mb h3.lt id)
  have hlk : ∀ n, (Instr.lookup 106 (.map (some mb)) (.agg #[.string o, .int .i64 i]) true).run Try.prog (w1.drewN n) = .ok (.tuple #[.int .i64 ((f (o, i)).getD 0), .bool (f (o, i)).isSome]) (w1.drewN n) := fun n => by
    have := (h31.at_block (w' := w1.drewN n) rfl).look true keyN Try.underlying106 (zeroInt _ : (zeroValue 3).run Try.prog (w1.drewN n) = .ok (.int .i64 0) (w1.drewN n)) nameInj hkey
    rw [if_pos rfl] at this
    refine this.trans ?_
    cases f (o, i) <;> rfl
  have hlk0 : (Instr.lookup 106 (.map (some mb)) (.agg #[.string o, .int .i64 i]) true).run Try.prog w1 = .ok (.tuple #[.int .i64 ((f (o, i)).getD 0), .bool (f (o, i)).isSome]) w1 := hlk 0
  have hlk1 : (Instr.lookup 106 (.map (some mb)) (.agg #[.string o, .int .i64 i]) true).run Try.prog w1.drew = .ok (.tuple #[.int .i64 ((f (o, i)).getD 0), .bool (f (o, i)).isSome]) w1.drew := hlk 1
  clear hw1
  go_quiet (fail)
  have hpB : ¬ p = B := by have := block_lt h1; omega
  have hmB : ¬ mb = B := by have := h3.lt; omega
  have hpm : ¬ p = mb := fun e => by subst e; obtain ⟨es, cl, hh, _⟩ := h3; rw [h1] at hh; cases hh
  generalize hw2 : w1.drewN nq = w2
  have k2 : Keeps NoBlk w w2 := by subst hw2; exact k1.drewN nq
  have hs2 : w2.heap.size = B + 1 := by subst hw2; exact hs1
  have bb : w2.heap[B]? = some (.cells #[.string o, .int .i64 i] 166 (0, 0)) := by subst hw2; exact b2
  have p2 : w2.heap[p]? = some (.cells #[.pointer (some ⟨hp, 0, none⟩), .map (some mb)] 108 (0, 0)) := by subst hw2; exact p1
  have h32 : MapFn w2 Try.prog 166 ekN (Value.int .i64) mb L.length f := by subst hw2; exact h31
  have h22 : IsHeapT w2 hp S1 L next := h2.keep k2 (fun _ _ x => x)
  clear hw2 hlk hlk0 hlk1 b0 b1 c0 c1 b2 p1 h31 k1 hs1
  have b0 : w2.cell? ⟨B, 0, none⟩ = some (.string o) := by rw [cell_of_row _ _ _ _ _ _ bb]; rfl
  have b1 : w2.cell? ⟨B, 1, none⟩ = some (.int .i64 i) := by rw [cell_of_row _ _ _ _ _ _ bb]; rfl
  have c0 : w2.cell? ⟨p, 0, none⟩ = some (.pointer (some ⟨hp, 0, none⟩)) := by rw [cell_of_row _ _ _ _ _ _ p2]; rfl
  have c1 : w2.cell? ⟨p, 1, none⟩ = some (.map (some mb)) := by rw [cell_of_row _ _ _ _ _ _ p2]; rfl
  cases hf : f (o, i) with
  | some k =>
    dsimp only [Option.isSome, Option.getD]
    go_wp2_with fail
    go_ret
    obtain ⟨x, hx, _, q⟩ := (h4 o i k).1 hf
    exact .inr (.inl ⟨hi1, ⟨x, hx, q⟩, rfl, h0.keep k2 (fun _ _ x => x), k2.of_none, fun _ hk => .inl hk⟩)
  | none =>
    dsimp only [Option.isSome, Option.getD]
    have hno := h4.none hf
    have hl := h32.len Try.underlying106
    by_cases h96 : L.length = 4096
    · have h96' : ((L.length : Int) == 4096) = true := by simp [h96]
      go_wp2_with fail
      go_ret
      exact .inr (.inr (.inl ⟨hi1, hno, h96, rfl, h0.keep k2 (fun _ _ x => x), k2.of_none, fun _ hk => .inl hk⟩))
    · have h96' : ((L.length : Int) == 4096) = false := by simp; omega
      go_wp2_with fail
      obtain ⟨ob, hst⟩ := h32.store keyN Try.underlying106 nameInj hkey next
      have hst' : ∀ w' : World, w'.heap[mb]? = w2.heap[mb]? → (Instr.mapUpdate 106 (.map (some mb)) (.agg #[.string o, .int .i64 i]) (.int .i64 next)).run Try.prog w' = .ok () (setBlock w' mb ob) := fun w' e => (hst w' e).1
      have hps1 : ¬ S1 B := fun x => by have := h2.lt B x; omega
      have keepS : ∀ w' : World, w'.heap[p]? = w2.heap[p]? → w'.heap[B]? = w2.heap[B]? → w'.cell? ⟨p, 0, none⟩ = some (.pointer (some ⟨hp, 0, none⟩)) ∧ w'.cell? ⟨p, 1, none⟩ = some (.map (some mb)) ∧ w'.cell? ⟨B, 0, none⟩ = some (.string o) ∧ w'.cell? ⟨B, 1, none⟩ = some (.int .i64 i) := fun w' e e' =>
        ⟨(World.cell?_of_block (a := ⟨p, 0, none⟩) e).trans c0, (World.cell?_of_block (a := ⟨p, 1, none⟩) e).trans c1, (World.cell?_of_block (a := ⟨B, 0, none⟩) e').trans b0, (World.cell?_of_block (a := ⟨B, 1, none⟩) e').trans b1⟩
      have hpush : ∀ n, Calls Try.prog 111 #[.pointer (some ⟨hp, 0, none⟩), .int .i64 due, .agg #[.int .i64 due, .string o, .int .i64 i]] (w2.drewN n) fun e w' =>
          e = .returned (.int .i64 next) ∧ ∃ S', IsHeapT w' hp S' (⟨due, next, ⟨due, o, i⟩⟩ :: L) (next + 1) ∧ Moves S1 w2 S' w' ∧ w'.heap[p]? = w2.heap[p]? ∧ w'.heap[B]? = w2.heap[B]? ∧ w'.heap[mb]? = w2.heap[mb]? := fun n => by
        refine (pushT_o (w2.drewN n) hp S1 L next (h22.keep ((Keeps.refl NoBlk w2).drewN n) (fun _ _ x => x)) due ⟨due, o, i⟩ (by omega) (by omega)).mono ?_
        rintro e w' ⟨he, S', hh, hm⟩
        have hk' : Keeps S1 w2 w' := ((Keeps.refl S1 w2).drewN n).trans hm.keeps (fun _ _ x => x)
        exact ⟨he, S', hh, ⟨hk', hm.foot⟩, hk'.block p (by have := block_lt p2; omega) h7, hk'.block B (by omega) hps1, hk'.block mb h32.lt h8⟩
      clear hl hmade bb
      go_region_held3 (fun w' => w'.cell? ⟨p, 0, none⟩ = some (.pointer (some ⟨hp, 0, none⟩)) ∧ w'.cell? ⟨p, 1, none⟩ = some (.map (some mb)) ∧ w'.cell? ⟨B, 0, none⟩ = some (.string o) ∧ w'.cell? ⟨B, 1, none⟩ = some (.int .i64 i)) (first | exact keepS _ rfl rfl | exact keepS _ e1 e2 | exact keepS _ ((heap_setBlock_ne _ _ _ _ hpm).trans e1) ((heap_setBlock_ne _ _ _ _ (fun e => hmB e.symm)).trans e2)) ((go_at_call 111; refine (hpush 1).mono ?_; rintro e w3 ⟨rfl, S2, hh3, m3, e1, e2, e3⟩; have hrun3 := hst' _ e3))
      go_wp2_with fail
      go_ret
      have hm3 := (hst w3 e3).2
      rw [hf] at hm3
      have hnum := h22.num
      have hb3 : Keeps (fun k => k = mb) w3 (setBlock w3 mb ob) := (Keeps.refl (fun k => k = mb) w3).setBlock (fun _ => rfl) _
      have a1 : ¬ S2 p := fun x => (m3.foot p x).elim h7 (fun x => by have := block_lt p2; omega)
      have a2 : ¬ S2 mb := fun x => (m3.foot mb x).elim h8 (fun x => by have := h32.lt; omega)
      refine .inr (.inr (.inr ⟨hi1, hno, h96, rfl, _, ⟨hp, S2, mb, fput f (o, i) next, ?_, hh3.keep hb3 (fun k hk e => a2 (e ▸ hk)), hm3, ?_, ?_, ?_, a1, a2, rfl⟩, ?_⟩))
      · rw [heap_setBlock_ne _ _ _ _ hpm, e1]; exact p2
      · intro o' i' k
        by_cases e : (o', i') = (o, i)
        · rw [e, fput_same]
          cases e
          constructor
          · intro hk
            cases hk
            exact ⟨_, List.mem_cons_self, rfl, rfl, rfl⟩
          · rintro ⟨x, hx, q1, q2, q3⟩
            rcases List.mem_cons.1 hx with rfl | hx
            · rw [← q1]
            · exact absurd ⟨q2, q3⟩ (hno x hx)
        · rw [fput_other _ _ e, h4 o' i' k]
          constructor
          · rintro ⟨x, hx, q⟩
            exact ⟨x, List.mem_cons_of_mem _ hx, q⟩
          · rintro ⟨x, hx, q1, q2, q3⟩
            rcases List.mem_cons.1 hx with rfl | hx
            · exact absurd (by rw [← q2, ← q3]) e
            · exact ⟨x, hx, q1, q2, q3⟩
      · intro x hx
        rcases List.mem_cons.1 hx with rfl | hx
        · exact ⟨rfl, hi1, (wf_i64_lo hi).2, ho⟩
        · exact h5 x hx
      · rw [List.map_cons, List.nodup_cons]
        refine ⟨fun hx => ?_, h6⟩
        obtain ⟨x, hx, e⟩ := List.mem_map.1 hx
        have := (hnum x hx).2
        simp only at e
        omega
      · refine ⟨((k2.of_none).trans m3.keeps (fun k _ hk => .inr (.inr hk))).trans hb3 (fun k _ e => .inr (.inl e)), fun k hk => ?_⟩
        rcases hk with rfl | rfl | hk
        · exact .inl (.inl rfl)
        · exact .inl (.inr (.inl rfl))
        · exact (m3.foot k hk).elim (fun x => .inl (.inr (.inr x))) (fun x => .inr (Nat.le_trans k2.size x))

end Go.Proofs.Ytofdcmbjcpfabaa
