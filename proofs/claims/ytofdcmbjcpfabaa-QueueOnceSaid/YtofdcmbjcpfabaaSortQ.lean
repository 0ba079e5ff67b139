/- What is out of a queue, by its tokens. -/
import Derived.Test.YtofdcmbjcpfabaaSortAQ
import Derived.Test.YtofdcmbjcpfabaaSortK
import Derived.Test.YtofdcmbjcpfabaaSortL
import Derived.Test.YtofdcmbjcpfabaaMRange
namespace Go.Proofs.Ytofdcmbjcpfabaa
open Go.RowKit Go.Shelf Go.Sort
attribute [local go_sem] Oper.semAt_some

theorem outInj (x y : QOut) (h : outV x = outV y) : x = y := by
  obtain ⟨⟨a, b, c, d⟩, e, f, g⟩ := x
  obtain ⟨⟨a', b', c', d'⟩, e', f', g'⟩ := y
  simp [outV] at h
  obtain ⟨rfl, rfl, rfl, rfl, rfl, rfl, rfl⟩ := h
  rfl

/-- All of a finite function's values, each once. -/
def AllOf (f : Int → Option QOut) (xs : List QOut) : Prop := ∃ ps : List (Int × QOut), xs = ps.map Prod.snd ∧ (∀ p ∈ ps, f p.1 = some p.2) ∧ (ps.map Prod.fst).Nodup ∧ ∀ k v, f k = some v → (k, v) ∈ ps

set_option maxRecDepth 100000 in
set_option maxHeartbeats 4000000 in
theorem vals1Q_in (n : Nat) (hn : 1 ≤ n) (l Bs n₀ b cnt : Nat) (f : Int → Option QOut) (J Jx : List QOut → World → Prop) (W : World) (hJ : AbidesFrom W.heap.size J)
    (hY : ∀ pre x W1, J pre W1 → pre.length < cnt → YieldAt Fence.wide (n - 1) Try.prog l #[.agg #[.string x.t.key, .string x.t.sticky, .int .i64 x.t.ready, .int .i64 x.t.att, .int .i64 x.tok, .string x.who, .int .i64 x.till]] W1 fun e W' =>
      (e = .returned (.bool true) ∧ J (pre ++ [x]) W' ∧ Kp n₀ W1 W') ∨ (e = .returned (.bool false) ∧ Jx (pre ++ [x]) W'))
    (hBs : W.cell? ⟨Bs, 0, none⟩ = some (.map (some b))) (hm : MapFn W Try.prog 3 (Value.int .i64) outV b cnt f) (h0 : J [] W) :
    CallsIn Fence.wide n Try.prog 182 #[.func (.yield l) #[] #[], .pointer (some ⟨Bs, 0, none⟩)] W (SeqPost (AllOf f) (fun _ => True) J Jx) := by
  have kI : ∀ k k', Value.int .i64 k = Value.int .i64 k' → k = k' := fun k k' h => by cases h; rfl
  refine callsIn_of_wp Try.func182 rfl trivial ?_ rfl
  simp only [Try.ntmps182, List.size_toArray, List.length_cons, List.length_nil, Nat.reduceAdd, Nat.reduceSub, Array.replicate_succ, Array.replicate_zero, List.push_toArray, List.append_toArray, List.nil_append, List.cons_append]
  gi_wp2_with (first
    | (gi_at_range; refine wpListIn_range_fn _ rfl _ 116 149 rfl Try.underlying116 b cnt f rfl hm ?_; intro w0 hrg0 hw0)
    | gi_in)
  go_frame
  gi_loopw [4] (fun _ wr => ∃ ps : List (Int × QOut), RangeFn wr Try.prog 3 (Value.int .i64) outV b W.heap.size cnt f ps ∧ J (ps.map Prod.snd) wr) (fun _ wr => leftN wr b W.heap.size)
  case atStart =>
    obtain ⟨o, ho⟩ := hw0.out
    exact ⟨[], hrg0, hJ [] W w0 none h0 (by rw [ho]; exact World.grownBy_alloc W o none) (fun r e => by cases e)⟩
  case round =>
    obtain ⟨ps, hrg, hJs⟩ := hrel
    gi_wp2_with (first
      | (gi_at_next; refine wpListIn_next_fn _ rfl _ rfl kI outInj b W.heap.size cnt f ps rfl hrg ?_ ?_)
      | gi_in)
    · intro hall
      gi_wp2
      go_end0
      have hp := hrg.part kI outInj
      exact ⟨⟨_, rfl⟩, .inl ⟨_, ⟨ps, rfl, hp.1, hp.2.1, hall⟩, hJs⟩⟩
    · intro k x w2 hf hnk hlt _ _ hrg2 hg2 hs2 hen
      obtain ⟨o, ho⟩ : ∃ o : Obj, o = .cells #[.string x.t.key, .string x.t.sticky, .int .i64 x.t.ready, .int .i64 x.t.att, .int .i64 x.tok, .string x.who, .int .i64 x.till] 149 := ⟨_, rfl⟩
      have hJ2 : J (ps.map Prod.snd) w2 := hJ _ wr w2 (some W.heap.size) hJs hg2 (fun r e => by cases e; exact ⟨Nat.le_refl _, hrg.iter⟩)
      have hJa : J (ps.map Prod.snd) (w2.alloc o) := hJ _ w2 _ none hJ2 (World.grownBy_alloc w2 o none) (fun r e => by cases e)
      have hrga : RangeFn (w2.alloc o) Try.prog 3 (Value.int .i64) outV b W.heap.size cnt f (ps ++ [(k, x)]) := hrg2.of_walks (KeepsWalks.alloc _ _)
      have hleft := hrg.leftN
      have hlen : Hid ((ps ++ [(k, x)]).length = ps.length + 1) := by show _ = _; simp
      have hmp : Hid ((ps ++ [(k, x)]).map Prod.snd = ps.map Prod.snd ++ [x]) := by show _ = _; simp
      obtain ⟨fn, tmps, assign, body, hy, hR⟩ := hY _ x _ hJa (by rw [List.length_map]; exact hlt)
      subst ho
      unfold outV at hen ⊢
      clear hY hs2 hrg2 hg2 hJ2 hJa hm hf hnk
      gi_wp2
      refine hR.mono ?_
      rintro e W3 (⟨rfl, hJ3, hk3⟩ | ⟨rfl, hJx3⟩)
      · gi_wp2
        have hrg3 := hrga.of_walks hk3.2
        have hleft3 := hrg3.leftN
        go_roundw
        case rel => exact ⟨ps ++ [(k, x)], hrg3, by rw [hmp.out]; exact hJ3⟩
        case measure => rw [hleft3, hleft, hlen.out]; omega
      · gi_wp2
        refine bodyPost_ret (results_none rfl _ _ _) rfl ?_
        exact ⟨⟨_, rfl⟩, .inr ⟨_, trivial, hJx3⟩⟩

theorem valsQ_stops (n : Nat) (hn : 1 ≤ n) (Bs b cnt : Nat) (f : Int → Option QOut) (w : World) (hBs : Bs < w.heap.size) (hc : w.cell? ⟨Bs, 0, none⟩ = some (.map (some b))) (n₀ : Nat) (hm : MapFn w Try.prog 3 (Value.int .i64) outV b cnt f) (W0 : World) (hW0 : Below w.heap.size w W0) :
    SeqStopsK Fence.wide n Try.prog 182 #[.pointer (some ⟨Bs, 0, none⟩)] (fun x : QOut => #[.agg #[.string x.t.key, .string x.t.sticky, .int .i64 x.t.ready, .int .i64 x.t.att, .int .i64 x.tok, .string x.who, .int .i64 x.till]]) (Kp n₀) (AllOf f) (fun _ => True) cnt W0 := fun l J Jx W hW hJ _ hY h0 => by
  have hWw := hW0.trans (hW.mono hW0.size)
  have hc' := (hWw.cell (p := ⟨Bs, 0, none⟩) hBs).trans hc
  exact vals1Q_in n hn l Bs n₀ b cnt f J Jx W hJ hY hc' (hm.at_block (hWw.block b hm.lt)) h0

set_option maxRecDepth 100000 in
theorem valsQ_c (b : Nat) (w : World) : Calls Try.prog 154 #[.map (some b)] w fun e w' => e = .returned (.func (.func 182) #[] #[.pointer (some ⟨w.heap.size, 0, none⟩)]) ∧ Hid (w' = w.alloc (.cells #[.map (some b)] 116)) := by
  have hmf := makeFunc_run
  go_enter Try.func154, Try.ntmps154
  go_wp2
  go_ret
  exact ⟨rfl, rfl⟩

/-- One that is out, with its token's bounds. -/
abbrev QTk := { x : QOut // 0 ≤ x.tok ∧ x.tok ≤ 9223372036854775807 }
instance : Inhabited QTk := ⟨⟨default, by show (0 : Int) ≤ 0; omega, by show (0 : Int) ≤ 9223372036854775807; omega⟩⟩
def encTk (x : QTk) : List Value := [.string x.1.t.key, .string x.1.t.sticky, .int .i64 x.1.t.ready, .int .i64 x.1.t.att, .int .i64 x.1.tok, .string x.1.who, .int .i64 x.1.till]
theorem encTk_len (x : QTk) : (encTk x).length = 7 := rfl
def cfQ (x y : QTk) : Int := x.1.tok - y.1.tok
theorem ltQ_iff (x y : QTk) : ltOf cfQ x y = true ↔ x.1.tok < y.1.tok := by
  unfold ltOf cfQ
  rw [decide_eq_true_iff]
  omega
theorem swoQ : SWO (ltOf cfQ) where
  irrefl x := by rw [Bool.eq_false_iff, ne_eq, ltQ_iff]; omega
  trans x y z h1 h2 := by rw [ltQ_iff] at *; omega
  ntrans x y z h1 h2 := by rw [Bool.eq_false_iff, ne_eq, ltQ_iff] at *; omega

theorem oneQ : ∀ x : QTk, ∀ u ∈ encTk x, u.oneCell' = true := fun x u hu => by
  simp [encTk] at hu; rcases hu with rfl | rfl | rfl | rfl | rfl | rfl | rfl <;> rfl

set_option maxRecDepth 100000 in
set_option maxHeartbeats 1000000 in
theorem byTok_c (x y : QTk) (W : World) : Calls Try.prog 155 (#[.agg (encTk x).toArray, .agg (encTk y).toArray] ++ #[]) W fun e w' => e = .returned (.int .i64 (cfQ x y)) ∧ ∃ q os', w' = grow (W.drewN q) os' := by
  obtain ⟨x, x0, x1⟩ := x
  obtain ⟨y, y0, y1⟩ := y
  have q1 : IntKind.i64.wrap (x.tok - y.tok) = x.tok - y.tok := IntWalk.i64_in _ (by omega)
  show Calls Try.prog 155 #[.agg #[.string x.t.key, .string x.t.sticky, .int .i64 x.t.ready, .int .i64 x.t.att, .int .i64 x.tok, .string x.who, .int .i64 x.till], .agg #[.string y.t.key, .string y.t.sticky, .int .i64 y.t.ready, .int .i64 y.t.att, .int .i64 y.tok, .string y.who, .int .i64 y.till]] W fun e w' => e = .returned (.int .i64 (x.tok - y.tok)) ∧ ∃ q os', w' = grow (W.drewN q) os'
  go_enter Try.func155, Try.ntmps155
  go_wp2
  go_ret
  exact ⟨rfl, (((Gr.refl _).alloc _).alloc _)⟩

set_option maxHeartbeats 1000000 in
theorem sortFuncQ_c (w : World) (g cap : Nat) (l : List QTk) (h : RowAt w 149 7 encTk g cap l) (hbig : l.length ≤ 1000000000) :
    Calls Try.prog 181 #[.slice (some ⟨g, 0, none⟩) l.length cap, .func (.func 155) #[] #[]] w fun e w' =>
      e = .returned (.tuple #[]) ∧ ∃ l' : List QTk, l'.Perm l ∧ l'.Pairwise (fun x y => x.1.tok ≤ y.1.tok) ∧ RowAt w' 149 7 encTk g cap l' ∧ Keeps (fun k => k = g) w w' := by
  have hcon := AnyQ.slices_SortFunc (α := QTk) sortLQ 7 Try.isAgg149 Try.sizeOf149 encTk encTk_len oneQ cfQ swoQ 155 #[] g 0 cap l.toArray w (enters_of Try.func155 (by kernel_rfl) rfl)
    (fun m os dk _ x y => byTok_c x y _) (holdsK_of_row encTk_len h) h.lt (by simp; omega)
  refine hcon.mono ?_
  rintro e w' ⟨rfl, d', n, os, hp, hs, rfl⟩
  have h1 := permIn_whole hp
  have h2 := sortedIn_whole hp.1 hs
  refine ⟨rfl, d'.toList, by simpa using h1, h2.imp (fun {a b} hab => ?_), ?_, keeps_sortedK _⟩
  · rw [Bool.eq_false_iff, ne_eq, ltQ_iff] at hab; omega
  · have := h.sorted (n := n) (os := os) encTk_len d'.toList (by have := h1.length_eq; simpa using this)
    simpa using this

end Go.Proofs.Ytofdcmbjcpfabaa
