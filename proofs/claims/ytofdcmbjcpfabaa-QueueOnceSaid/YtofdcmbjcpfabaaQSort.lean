/- SortedFunc and Queue.sorted: what is out, in a row by its tokens. -/
import Derived.Test.YtofdcmbjcpfabaaSortQ
namespace Go.Proofs.Ytofdcmbjcpfabaa
open Go.RowKit Go.Shelf Go.Sort
attribute [local go_sem] Oper.semAt_some

theorem rowTk {w : World} {e : TypeId} {g cap : Nat} {l : List QTk} : RowAt w e 7 encTk g cap l ↔ RowAt w e 7 encOut g cap (l.map Subtype.val) := by
  unfold RowAt RowV
  rw [List.length_map, List.flatMap_map]
  rfl

theorem toTk : ∀ (xs : List QOut), (∀ x ∈ xs, 0 ≤ x.tok ∧ x.tok ≤ 9223372036854775807) → ∃ l : List QTk, l.map Subtype.val = xs
  | [], _ => ⟨[], rfl⟩
  | x :: xs, h => by
    obtain ⟨l, hl⟩ := toTk xs (fun y hy => h y (List.mem_cons_of_mem _ hy))
    exact ⟨⟨x, h x List.mem_cons_self⟩ :: l, by simp [hl]⟩

/-- All that f holds, by rising tokens. -/
structure OutsOf (f : Int → Option QOut) (l : List QOut) : Prop where
  mem : ∀ x, x ∈ l ↔ f x.tok = some x
  rise : l.Pairwise (fun x y => x.tok < y.tok)

theorem outsOf_of {f : Int → Option QOut} {xs l : List QOut} (hf : ∀ k x, f k = some x → x.tok = k) (ha : AllOf f xs) (hp : l.Perm xs) (hs : l.Pairwise (fun x y => x.tok ≤ y.tok)) : OutsOf f l := by
  obtain ⟨ps, rfl, h1, h2, h3⟩ := ha
  have hk : ∀ p ∈ ps, p.2.tok = p.1 := fun p hp => hf _ _ (h1 p hp)
  refine ⟨fun x => ?_, ?_⟩
  · rw [hp.mem_iff, List.mem_map]
    constructor
    · rintro ⟨p, hp, rfl⟩
      rw [hk p hp]; exact h1 p hp
    · intro h
      exact ⟨_, h3 _ _ h, rfl⟩
  · have hn : (ps.map Prod.snd).Pairwise (fun x y => x.tok ≠ y.tok) := by
      rw [List.pairwise_map]
      refine List.Pairwise.imp_of_mem ?_ (List.pairwise_map.1 h2)
      intro a c ha hc hac e
      exact hac (by rw [← hk a ha, ← hk c hc]; exact e)
    have hn2 : l.Pairwise (fun x y => x.tok ≠ y.tok) := (hp.pairwise_iff (fun h e => h e.symm)).2 hn
    exact (hs.and hn2).imp (fun ⟨h1, h2⟩ => by omega)

/-- What SortedFunc and sorted tell. -/
def OrderedQ (w : World) (f : Int → Option QOut) (e : Ending) (w' : World) : Prop :=
  ∃ a c l, e = .returned (.slice a l.length c) ∧ OutsOf f l ∧ l.length ≤ 1000000 ∧ RowV w' 149 7 encOut (.slice a l.length c) l ∧ (∀ b, (Value.slice a l.length c).ownBlock = some b → w.heap.size ≤ b) ∧ Keeps NoBlk w w'

theorem allOf_len {f : Int → Option QOut} {xs : List QOut} {m : Nat} (ha : AllOf f xs) (hm : ∀ k x, f k = some x → 0 < k ∧ k ≤ m) : xs.length ≤ m := by
  obtain ⟨ps, rfl, h1, h2, h3⟩ := ha
  rw [List.length_map]
  have := nodup_len (m := (List.range m).map (fun i : Nat => ((i : Int) + 1))) h2 (fun k hk => by
    obtain ⟨p, hp, rfl⟩ := List.mem_map.1 hk
    have := hm _ _ (h1 p hp)
    exact List.mem_map.2 ⟨(p.1 - 1).toNat, List.mem_range.2 (by omega), by omega⟩)
  simpa using this

set_option maxRecDepth 100000 in
set_option maxHeartbeats 2000000 in
theorem sortedFuncQ_c (w : World) (Bs b cnt : Nat) (f : Int → Option QOut) (hBs : Bs < w.heap.size) (hc : w.cell? ⟨Bs, 0, none⟩ = some (.map (some b))) (hm : MapFn w Try.prog 3 (Value.int .i64) outV b cnt f) (hbig : cnt ≤ 1000000)
    (hf : ∀ k x, f k = some x → x.tok = k ∧ 0 < k ∧ k ≤ (1000000 : Nat)) :
    Calls Try.prog 153 #[.func (.func 182) #[] #[.pointer (some ⟨Bs, 0, none⟩)], .func (.func 155) #[] #[]] w (OrderedQ w f) := by
  have hcol := callsIn_wide.1 (collectQ_in 10 (by omega) 182 #[.pointer (some ⟨Bs, 0, none⟩)] (enters_of Try.func182 (by kernel_rfl) rfl) (AllOf f) (fun _ => True) cnt hbig w
    (fun W0 hW0 => valsQ_stops 8 (by omega) Bs b cnt f w hBs hc w.heap.size hm W0 hW0))
  clear hm hc
  go_enter Try.func153, Try.ntmps153
  go_wp2_with fail
  refine hcol.mono ?_
  rintro e w1 ⟨v1, xs, rfl, hall, hown, hb⟩
  have k1 := below_keeps0 hb
  have hxl := allOf_len hall (fun k x h => (hf k x h).2)
  rcases hown.2 with ⟨rfl, h0⟩ | ⟨g, cap, cur, rfl, hg, _⟩
  · obtain rfl : xs = [] := List.length_eq_zero_iff.1 h0
    have hs := fun W => AnyF.slices_SortFunc_none sortLQ none 0 (.func (.func 155) #[] #[]) W
    have hs' : ∀ W, Calls Try.prog 181 #[.slice none 0 0, .func (.func 155) #[] #[]] W fun e w' => e = .returned (.tuple #[]) ∧ W = w' := fun W => (hs W).mono fun e w' h => ⟨h.1, h.2.symm⟩
    clear hs hown
    go_wp2_with fail
    refine (hs' _).mono ?_
    rintro e w2 ⟨rfl, rfl⟩
    go_wp2_with fail
    go_ret
    exact ⟨none, 0, [], rfl, outsOf_of (fun k x h => (hf k x h).1) hall (List.Perm.refl _) List.Pairwise.nil, Nat.zero_le _, RowV.nil _ _ _ _, (fun b hb => by cases hb), k1⟩
  · have hrow : RowAt w1 149 7 encOut g cap xs := ⟨hown.1, by
      rcases hown.2 with ⟨e, _⟩ | ⟨g', cap', cur', e, h1, h2⟩
      · cases e
      · exact .inr ⟨g', cap', cur', e, Nat.zero_le _, h2⟩⟩
    have hx : ∀ x ∈ xs, 0 ≤ x.tok ∧ x.tok ≤ 9223372036854775807 := fun x hx => by
      have hall' := hall
      obtain ⟨ps, e, h1, _⟩ := hall'
      rw [e] at hx
      obtain ⟨p, hp, rfl⟩ := List.mem_map.1 hx
      have := hf _ _ (h1 p hp)
      omega
    obtain ⟨lq, hlq⟩ := toTk xs hx
    have hlen : lq.length = xs.length := by rw [← hlq, List.length_map]
    rw [← hlq] at hrow
    have hs := sortFuncQ_c w1 g cap lq (rowTk.2 hrow) (by omega)
    rw [hlen] at hs
    clear hown hrow hx
    go_wp2_with fail
    refine hs.mono ?_
    rintro e w2 ⟨rfl, l', hp, hord, hr2, k2⟩
    have hl : (l'.map Subtype.val).length = xs.length := by rw [List.length_map, hp.length_eq, hlen]
    go_wp2_with fail
    go_ret
    refine ⟨some ⟨g, 0, none⟩, cap, l'.map Subtype.val, (by rw [hl]; rfl), outsOf_of (fun k x h => (hf k x h).1) hall ?_ ?_, by omega, rowTk.1 hr2, (fun b hb => by cases hb; exact hg), k1.trans k2 (fun k hk e => by omega)⟩
    · rw [← hlq]; exact hp.map _
    · exact List.pairwise_map.2 hord

/-- The tokens are those that were given. -/
def QPos (q : QS) : Prop := ∀ k x, q.outs k = some x → 0 < k ∧ k < q.next

theorem MapFn.few {κ : Type} {w : World} {P : Program} {kt : TypeId} {ev : κ → Value} {b n m : Nat} {f : Int → Option κ} (h : MapFn w P kt (Value.int .i64) ev b n f) (hf : ∀ k x, f k = some x → 0 < k ∧ k ≤ m) : n ≤ m := by
  obtain ⟨es, clock, _, hst, rfl, h3, _⟩ := h
  have hnd : (es.toList.map (fun e : MapEntry => e.key)).Nodup := List.pairwise_map.2 ((MapKept.stamped_iff _ _).1 hst).2.2
  have := nodup_len (m := (List.range m).map (fun i : Nat => Value.int .i64 ((i : Int) + 1))) hnd (fun k hk => by
    obtain ⟨x, hx, rfl⟩ := List.mem_map.1 hk
    obtain ⟨k, v, e1, _, hfk, _⟩ := h3 x hx
    have := hf k v hfk
    exact List.mem_map.2 ⟨(k - 1).toNat, List.mem_range.2 (by omega), by simp only [e1]; congr 1; omega⟩)
  simpa using this

set_option maxRecDepth 100000 in
set_option maxHeartbeats 2000000 in
theorem sortedQ_o {w : World} {p : Nat} {S : Nat → Prop} {q : QS} (h : IsQ w p S q) (hpos : QPos q) (hn : q.next ≤ 1000001) :
    Calls Try.prog 116 #[.pointer (some ⟨p, 0, none⟩)] w (OrderedQ w q.outs) := by
  obtain ⟨lv, mo, mt, hr, ho, _⟩ := h
  have hmade := qmade_c w p mo mt lv q hr ho.n0
  obtain ⟨_, _, _, _, c4, _⟩ := hr.fields
  obtain ⟨cnt, hmo⟩ := hr.ho
  have hcnt : cnt ≤ 1000000 := hmo.few (fun k x hk => by have := hpos k x hk; omega)
  have hsf : ∀ W, Hid (W = w.alloc (.cells #[.map (some mo)] 116)) → Calls Try.prog 153 #[.func (.func 182) #[] #[.pointer (some ⟨w.heap.size, 0, none⟩)], .func (.func 155) #[] #[]] W (OrderedQ w q.outs) := fun W hW => by
    rw [hW.out]
    have hbox := Boxed.new w 116 (.map (some mo))
    have hk : Keeps NoBlk w (w.alloc (.cells #[.map (some mo)] 116)) := (Keeps.refl _ _).alloc _
    refine (sortedFuncQ_c _ w.heap.size mo cnt q.outs hbox.lt hbox.cell (hmo.at_block (hk.block mo hmo.lt id)) hcnt (fun k x hx => by have := hpos k x hx; have := ho.o k x hx; exact ⟨this.1, by omega⟩)).mono ?_
    rintro e w' ⟨a', c', l', rfl, h1, h2, h3, h4, h5⟩
    exact ⟨a', c', l', rfl, h1, h2, h3, fun b hb => Nat.le_trans hk.size (h4 b hb), hk.trans h5 (fun _ _ x => x)⟩
  have hv := valsQ_c mo w
  clear hmo hr
  go_enter Try.func116, Try.ntmps116
  go_wp2_with fail
  refine hmade.mono ?_
  rintro e w1 ⟨rfl, rfl⟩
  go_wp2_with fail
  refine hv.mono ?_
  rintro e w1 ⟨rfl, hw1⟩
  go_wp2_with fail
  refine (hsf w1 hw1).mono ?_
  rintro e w2 ⟨a', c', l', rfl, h1⟩
  clear hsf hv
  go_wp2_with fail
  go_ret
  exact ⟨a', c', l', rfl, h1⟩

end Go.Proofs.Ytofdcmbjcpfabaa
