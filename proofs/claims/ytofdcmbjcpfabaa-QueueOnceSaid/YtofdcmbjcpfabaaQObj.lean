/- A queue of tasks as an object: what each call does to its state. -/
import Derived.Test.YtofdcmbjcpfabaaQPut
namespace Go.Proofs.Ytofdcmbjcpfabaa
open Go.RowKit Go.Maps Go.MapKept Go.ChangeMaps

/-- A queue at p, its blocks S, in the state q. -/
def IsQ (w : World) (p : Nat) (S : Nat → Prop) (q : QS) : Prop := ∃ lv mo mt, QRaw w p lv mo mt q ∧ QOk q ∧ S = QFoot p lv mo mt

section
variable {w w' : World} {p : Nat} {S : Nat → Prop} {q : QS}

theorem IsQ.lt (h : IsQ w p S q) : ∀ k, S k → k < w.heap.size := by
  obtain ⟨lv, mo, mt, hr, _, rfl⟩ := h
  exact hr.foot_lt

theorem IsQ.ok (h : IsQ w p S q) : QOk q := by
  obtain ⟨lv, mo, mt, _, h, _⟩ := h; exact h

theorem IsQ.keep (h : IsQ w p S q) {T : Nat → Prop} (hk : Keeps T w w') (hd : ∀ k, S k → ¬ T k) : IsQ w' p S q := by
  obtain ⟨lv, mo, mt, hr, ho, rfl⟩ := h
  exact ⟨lv, mo, mt, hr.keep hk hd, ho, rfl⟩

theorem foot_moves {lv lv' : Value} {mo mt : Nat} (hl : ∀ k, lv'.ownBlock = some k → lv.ownBlock = some k ∨ w.heap.size ≤ k) (hk : Keeps (QFoot p lv mo mt) w w') : Moves (QFoot p lv mo mt) w (QFoot p lv' mo mt) w' :=
  ⟨hk, fun k h => by
    rcases h with h | h | h | h
    · exact .inl (.inl h)
    · exact .inl (.inr (.inl h))
    · exact .inl (.inr (.inr (.inl h)))
    · exact (hl k h).imp (fun x => .inr (.inr (.inr x))) id⟩

/-! ### the states stay sound -/

theorem QOk.new {most grace : Int} (hm : ¬ BadNew most grace) (hg : grace ≤ 9223372036854775807) : QOk (QS.new most grace) := by
  have h1 : ¬ most < 1 := fun x => hm (.inl x)
  have h2 : ¬ 4096 < most := fun x => hm (.inr (.inl x))
  have h3 : ¬ grace < 0 := fun x => hm (.inr (.inr x))
  exact ⟨by show (0 : Int) < 1; omega, by show (1 : Int) ≤ _; omega, Nat.zero_le _, ⟨by show _ ≤ grace; omega, hg⟩, ⟨by show _ ≤ most; omega, by show most ≤ _; omega⟩, (fun t ht => by cases ht), (fun k x hx => by cases hx)⟩

theorem QOk.wait (hq : QOk q) {t : Task} (hk : t.key.size ≤ maxLen) (hr : I64 t.ready) (ha : I64 t.att) (ha2 : t.att ≤ 9000000000000000000) (hbig : q.waits.length < 1000000) : QOk (q.wait t) := by
  refine ⟨hq.n0, hq.n1, ?_, hq.g, hq.m, fun x hx => ?_, hq.o⟩
  · show (q.waits ++ [t]).length ≤ _; simp; omega
  · rcases List.mem_append.1 (show x ∈ q.waits ++ [t] from hx) with hx | hx
    · exact hq.w x hx
    · rw [List.mem_singleton.1 hx]; exact ⟨hk, hr, ha, ha2⟩

theorem QOk.del (hq : QOk q) (tok : Int) : QOk { q with outs := fdel q.outs tok } := by
  refine ⟨hq.n0, hq.n1, hq.big, hq.g, hq.m, hq.w, fun k x hx => ?_⟩
  have hx' : fdel q.outs tok k = some x := hx
  by_cases e : k = tok
  · subst e; rw [fdel_same] at hx'; cases hx'
  · rw [fdel_other _ e] at hx'; exact hq.o k x hx'

theorem QOk.done (hq : QOk q) (tok : Int) (x : QOut) : QOk (q.done tok x) := by
  have := hq.del tok
  exact ⟨this.n0, this.n1, this.big, this.g, this.m, this.w, this.o⟩

theorem QOk.back (hq : QOk q) {tok : Int} {x : QOut} (hx : q.outs tok = some x) {ready : Int} (hr : I64 ready) (hbig : q.waits.length < 1000000) : QOk (q.back tok x ready) :=
  QOk.wait (hq.del tok) (hq.o tok x hx).2.1 hr (hq.o tok x hx).2.2.2.1 (hq.o tok x hx).2.2.2.2.2 hbig

theorem addI_64 {x y : Int} (hx : I64 x) (hy : I64 y) : I64 (addI x y) := by
  unfold I64 at hx hy ⊢
  unfold addI
  split
  · omega
  · split <;> omega

theorem QOk.beat (hq : QOk q) {tok : Int} {x : QOut} (hx : q.outs tok = some x) {till : Int} (ht : I64 till) : QOk (q.beat tok x till) := by
  refine ⟨hq.n0, hq.n1, hq.big, hq.g, hq.m, hq.w, fun k y hy => ?_⟩
  have hy' : fput q.outs tok { x with till := maxI x.till till } k = some y := hy
  by_cases e : k = tok
  · subst e
    rw [fput_same] at hy'
    cases hy'
    have := hq.o k x hx
    refine ⟨this.1, this.2.1, this.2.2.1, this.2.2.2.1, ?_, this.2.2.2.2.2⟩
    show I64 (maxI x.till till)
    unfold maxI
    split
    · exact ht
    · exact this.2.2.2.2.1
  · rw [fput_other _ _ e] at hy'
    exact hq.o k y hy'

/-! ### the calls -/

theorem qnew_o (w : World) (most grace : Int) (h : ¬ BadNew most grace) (hg : grace ≤ 9223372036854775807) :
    Calls Try.prog 19 #[.int .i64 most, .int .i64 grace] w fun e w' => ∃ p S, e = .returned (.tuple #[.pointer (some ⟨p, 0, none⟩), .int .i64 0]) ∧ IsQ w' p S (QS.new most grace) ∧ Moves NoBlk w S w' := by
  refine (qnew_c w most grace h).mono ?_
  rintro e w' ⟨p, mo, mt, rfl, hr, hk, l1, l2, l3⟩
  refine ⟨p, _, rfl, ⟨_, _, _, hr, QOk.new h hg, rfl⟩, hk, fun k hf => .inr ?_⟩
  rcases hf with rfl | rfl | rfl | hf
  · exact l1
  · exact l2
  · exact l3
  · cases hf

theorem qlen_o (h : IsQ w p S q) : Calls Try.prog 21 #[.pointer (some ⟨p, 0, none⟩)] w fun e w' => e = .returned (.int .i64 q.waits.length) ∧ w = w' := by
  obtain ⟨lv, mo, mt, hr, ho, rfl⟩ := h
  exact qlen_c w p mo mt lv q hr ho.n0

theorem qputThere_o (h : IsQ w p S q) (key sticky : ByteArray) (ready : Int) (hk : key.size ≤ maxLen) (v : Int) (hv : q.there key = some v) :
    Calls Try.prog 20 #[.pointer (some ⟨p, 0, none⟩), .string key, .string sticky, .int .i64 ready] w fun e w' => e = .returned (.int .i64 6) ∧ w = w' := by
  obtain ⟨lv, mo, mt, hr, ho, rfl⟩ := h
  exact qputThere_c w p mo mt lv q hr ho.n0 key sticky ready hk v hv

theorem qputFull_o (h : IsQ w p S q) (key sticky : ByteArray) (ready : Int) (hk : key.size ≤ maxLen) (hv : q.there key = none) (hf : q.most ≤ q.waits.length) :
    Calls Try.prog 20 #[.pointer (some ⟨p, 0, none⟩), .string key, .string sticky, .int .i64 ready] w fun e w' => e = .returned (.int .i64 7) ∧ Keeps NoBlk w w' := by
  obtain ⟨lv, mo, mt, hr, ho, rfl⟩ := h
  exact qputFull_c w p mo mt lv q hr ho.n0 key sticky ready hk hv hf

theorem qputOk_o (h : IsQ w p S q) (key sticky : ByteArray) (ready : Int) (hk : key.size ≤ maxLen) (hrd : I64 ready) (hv : q.there key = none) (hf : ¬ q.most ≤ q.waits.length) (hbig : q.waits.length < 1000000) :
    Calls Try.prog 20 #[.pointer (some ⟨p, 0, none⟩), .string key, .string sticky, .int .i64 ready] w fun e w' => e = .returned (.int .i64 0) ∧ ∃ S', IsQ w' p S' (q.wait ⟨key, sticky, ready, 0⟩) ∧ Moves S w S' w' := by
  obtain ⟨lv, mo, mt, hr, ho, rfl⟩ := h
  refine (qputOk_c w p mo mt lv q hr ho.n0 key sticky ready hk hv hf (by omega)).mono ?_
  rintro e w' ⟨rfl, lv', hr', hl, hk'⟩
  exact ⟨rfl, _, ⟨_, _, _, hr', ho.wait (t := ⟨key, sticky, ready, 0⟩) hk hrd ⟨by show (-9223372036854775808 : Int) ≤ 0; omega, by show (0 : Int) ≤ 9223372036854775807; omega⟩ (by show (0 : Int) ≤ 9000000000000000000; omega) hbig, rfl⟩, foot_moves hl hk'⟩

theorem qpollNone_o (h : IsQ w p S q) (who : ByteArray) (now lease : Int) (hl : 1 ≤ lease) (hi : idxI (fun t => forB q.grace t who now) q.waits = -1) :
    Calls Try.prog 22 #[.pointer (some ⟨p, 0, none⟩), .string who, .int .i64 now, .int .i64 lease] w fun e w' =>
      e = .returned (.tuple #[.string ⟨#[]⟩, .int .i64 0, .int .i64 0, .int .i64 5]) ∧ Keeps NoBlk w w' := by
  obtain ⟨lv, mo, mt, hr, ho, rfl⟩ := h
  exact (pollNone_c w p mo mt lv q hr ho who now lease hl hi).mono fun e w' ⟨h1, h2⟩ => ⟨h1, h2.keeps⟩

theorem qpollHit_o (h : IsQ w p S q) (who : ByteArray) (now lease : Int) (hl : 1 ≤ lease) (hl2 : lease ≤ 9223372036854775807) (hnow : I64 now) (i : Nat) (t : Task) (hti : q.waits[i]? = some t) (hi : idxI (fun t => forB q.grace t who now) q.waits = i)
    (hnx : q.next < 9000000000000000000) (hat : t.att < 9000000000000000000) :
    Calls Try.prog 22 #[.pointer (some ⟨p, 0, none⟩), .string who, .int .i64 now, .int .i64 lease] w fun e w' =>
      e = .returned (.tuple #[.string t.key, .int .i64 q.next, .int .i64 (t.att + 1), .int .i64 0]) ∧ ∃ S', IsQ w' p S' (q.hand i t who (addI now lease)) ∧ Moves S w S' w' := by
  obtain ⟨lv, mo, mt, hr, ho, rfl⟩ := h
  refine (pollHit_c w p mo mt lv q hr ho who now lease hl hl2 hnow i t hti hi hnx hat).mono ?_
  rintro e w' ⟨rfl, lv', hr', hlv, hk⟩
  exact ⟨rfl, _, ⟨_, _, _, hr', ho.hand (List.mem_of_getElem? hti) hnx (addI_64 hnow ⟨by omega, hl2⟩) hat, rfl⟩, foot_moves (fun k hk => .inl (hlv k hk)) hk⟩

theorem qdoneNo_o (h : IsQ w p S q) (tok : Int) (ht : I64 tok) (ho : q.outs tok = none) :
    Calls Try.prog 24 #[.pointer (some ⟨p, 0, none⟩), .int .i64 tok] w fun e w' => e = .returned (.tuple #[.string ⟨#[]⟩, .int .i64 0, .int .i64 5]) ∧ Keeps NoBlk w w' := by
  obtain ⟨lv, mo, mt, hr, hq, rfl⟩ := h
  exact qdoneNo_c w p mo mt lv q hr hq.n0 tok ht ho

theorem qdoneYes_o (h : IsQ w p S q) (tok : Int) (ht : I64 tok) (x : QOut) (ho : q.outs tok = some x) :
    Calls Try.prog 24 #[.pointer (some ⟨p, 0, none⟩), .int .i64 tok] w fun e w' => e = .returned (.tuple #[.string x.t.key, .int .i64 x.t.att, .int .i64 0]) ∧ IsQ w' p S (q.done tok x) ∧ Moves S w S w' := by
  obtain ⟨lv, mo, mt, hr, hq, rfl⟩ := h
  refine (qdoneYes_c w p mo mt lv q hr hq.n0 tok ht x ho (hq.o tok x ho).2.1).mono ?_
  rintro e w' ⟨rfl, hr', hk⟩
  exact ⟨rfl, ⟨_, _, _, hr', hq.done tok x, rfl⟩, foot_moves (fun k hk => .inl hk) hk⟩

theorem qbackNo_o (h : IsQ w p S q) (tok ready : Int) (ht : I64 tok) (ho : q.outs tok = none) :
    Calls Try.prog 23 #[.pointer (some ⟨p, 0, none⟩), .int .i64 tok, .int .i64 ready] w fun e w' => e = .returned (.tuple #[.string ⟨#[]⟩, .int .i64 0, .int .i64 5]) ∧ Keeps NoBlk w w' := by
  obtain ⟨lv, mo, mt, hr, hq, rfl⟩ := h
  exact qbackNo_c w p mo mt lv q hr hq.n0 tok ready ht ho

theorem qbackYes_o (h : IsQ w p S q) (tok ready : Int) (ht : I64 tok) (hrd : I64 ready) (x : QOut) (ho : q.outs tok = some x) (hbig : q.waits.length < 1000000) :
    Calls Try.prog 23 #[.pointer (some ⟨p, 0, none⟩), .int .i64 tok, .int .i64 ready] w fun e w' => e = .returned (.tuple #[.string x.t.key, .int .i64 x.t.att, .int .i64 0]) ∧ ∃ S', IsQ w' p S' (q.back tok x ready) ∧ Moves S w S' w' := by
  obtain ⟨lv, mo, mt, hr, hq, rfl⟩ := h
  refine (qbackYes_c w p mo mt lv q hr hq.n0 tok ready ht x ho (hq.o tok x ho).2.1 (by omega)).mono ?_
  rintro e w' ⟨rfl, lv', hr', hl, hk⟩
  exact ⟨rfl, _, ⟨_, _, _, hr', hq.back ho hrd hbig, rfl⟩, foot_moves hl hk⟩

theorem qbeatBad_o (h : IsQ w p S q) (tok now lease : Int) (hl : lease < 1) :
    Calls Try.prog 37 #[.pointer (some ⟨p, 0, none⟩), .int .i64 tok, .int .i64 now, .int .i64 lease] w fun e w' => e = .returned (.int .i64 1) ∧ w = w' := by
  obtain ⟨lv, mo, mt, hr, hq, rfl⟩ := h
  exact qbeatBad_c w p mo mt lv q hr hq.n0 tok now lease hl

theorem qbeatNo_o (h : IsQ w p S q) (tok now lease : Int) (hl : ¬ lease < 1) (ht : I64 tok) (ho : q.outs tok = none) :
    Calls Try.prog 37 #[.pointer (some ⟨p, 0, none⟩), .int .i64 tok, .int .i64 now, .int .i64 lease] w fun e w' => e = .returned (.int .i64 5) ∧ Keeps NoBlk w w' := by
  obtain ⟨lv, mo, mt, hr, hq, rfl⟩ := h
  exact qbeatNo_c w p mo mt lv q hr hq.n0 tok now lease hl ht ho

theorem qbeatYes_o (h : IsQ w p S q) (tok now lease : Int) (hl : ¬ lease < 1) (hl2 : lease ≤ 9223372036854775807) (hnow : I64 now) (ht : I64 tok) (x : QOut) (ho : q.outs tok = some x) :
    Calls Try.prog 37 #[.pointer (some ⟨p, 0, none⟩), .int .i64 tok, .int .i64 now, .int .i64 lease] w fun e w' => e = .returned (.int .i64 0) ∧ IsQ w' p S (q.beat tok x (addI now lease)) ∧ Moves S w S w' := by
  obtain ⟨lv, mo, mt, hr, hq, rfl⟩ := h
  refine (qbeatYes_c w p mo mt lv q hr hq.n0 tok now lease hl hl2 hnow ht x ho).mono ?_
  rintro e w' ⟨rfl, hr', hk⟩
  exact ⟨rfl, ⟨_, _, _, hr', hq.beat ho (addI_64 hnow ⟨by omega, hl2⟩), rfl⟩, foot_moves (fun k hk => .inl hk) hk⟩

theorem qtwin_o (h : IsQ w p S q) :
    Calls Try.prog 25 #[.pointer (some ⟨p, 0, none⟩)] w fun e w' => ∃ p' S', e = .returned (.pointer (some ⟨p', 0, none⟩)) ∧ IsQ w' p' S' q ∧ (∀ k, S' k → w.heap.size ≤ k) ∧ Keeps NoBlk w w' := by
  obtain ⟨lv, mo, mt, hr, hq, rfl⟩ := h
  refine (twin_c w p mo mt lv q hr hq.n0 hq.big).mono ?_
  rintro e w' ⟨p', lv', mo', mt', rfl, hr', hf, hk⟩
  exact ⟨p', _, rfl, ⟨_, _, _, hr', hq, rfl⟩, hf, hk⟩
end

end Go.Proofs.Ytofdcmbjcpfabaa
