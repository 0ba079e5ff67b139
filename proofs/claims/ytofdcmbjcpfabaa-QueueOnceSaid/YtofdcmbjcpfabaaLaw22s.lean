/- QueueOnce: stand. -/
import Derived.Test.YtofdcmbjcpfabaaLaw22r
import Derived.Test.YtofdcmbjcpfabaaMRange
namespace Go.Proofs.Ytofdcmbjcpfabaa
open Go.RowKit Go.Maps Go.MapKept Go.ChangeMaps
attribute [local go_sem ↓] Go.wp_at_zero Go.wp_at_succ

theorem RowV.str1 {w : World} {e : TypeId} {v : Value} {l : List ByteArray} (h : RowV w e 1 encStr v l) {i : Nat} (hi : i < l.length) : ∃ g cap, v = .slice (some ⟨g, 0, none⟩) l.length cap ∧ g < w.heap.size ∧ w.cell? ⟨g, i, none⟩ = some (.string l[i]) := by
  rcases h.form with ⟨_, e⟩ | ⟨g, cap, rfl⟩
  · subst e; simp at hi
  · have hr : RowAt w e 1 encStr g cap l := h
    have := hr.cell encStr_len hi (j := 0) (by omega)
    rw [Nat.mul_one, Nat.add_zero] at this
    exact ⟨g, cap, rfl, hr.lt, this⟩

/-- How often each text stands in a list. -/
def cntN (l : List ByteArray) (k : ByteArray) : Nat := l.countP (fun x => decide (x = k))
def cntF (l : List ByteArray) (k : ByteArray) : Option Int := if cntN l k = 0 then none else some (cntN l k : Int)
theorem cnt_get (l : List ByteArray) (k : ByteArray) : ((cntF l k).map (Value.int .i64)).getD (.int .i64 0) = .int .i64 (cntN l k : Int) := by
  unfold cntF
  split
  · rename_i h; rw [h]; rfl
  · rfl
theorem cntN_snoc (l : List ByteArray) (x k : ByteArray) : cntN (l ++ [x]) k = cntN l k + if x = k then 1 else 0 := by
  unfold cntN
  rw [List.countP_append, List.countP_singleton]
  by_cases e : x = k <;> simp [e]
theorem cnt_put (l : List ByteArray) (k : ByteArray) : fput (cntF l) k ((cntN l k : Int) + 1) = cntF (l ++ [k]) := by
  funext k'
  by_cases e : k' = k
  · subst e
    rw [fput_same]
    unfold cntF
    rw [cntN_snoc, if_pos rfl, if_neg (by omega)]
    simp
  · rw [fput_other _ _ e]
    unfold cntF
    rw [cntN_snoc]
    have e2 : ¬ k = k' := fun h => e h.symm
    rw [show (if k = k' then 1 else 0) = 0 from if_neg e2, Nat.add_zero]
theorem cnt_nil : cntF [] = fun _ => none := by funext k; simp [cntF, cntN]
theorem cntN_le (l : List ByteArray) (k : ByteArray) : cntN l k ≤ l.length := List.countP_le_length
theorem cntN_one : ∀ {l : List ByteArray}, l.Nodup → ∀ {k : ByteArray}, k ∈ l → cntN l k = 1 := by
  intro l
  induction l with
  | nil => intro _ k hk; cases hk
  | cons x l ih =>
    intro hn k hk
    rw [List.nodup_cons] at hn
    have hcons : cntN (x :: l) k = cntN l k + if x = k then 1 else 0 := by
      unfold cntN
      rw [List.countP_cons]
      by_cases e : x = k <;> simp [e]
    rw [hcons]
    by_cases e : x = k
    · subst e
      have : cntN l x = 0 := by
        unfold cntN
        rw [List.countP_eq_zero]
        intro y hy e2
        have e3 : y = x := of_decide_eq_true e2
        subst e3; exact hn.1 hy
      rw [this, if_pos rfl]
    · rw [if_neg e, ih hn.2 ((List.mem_cons.1 hk).resolve_left (fun h => e h.symm))]

/-- The worlds of stand's loops: the map M counts the texts l. -/
structure StW (w2 wr : World) (M : Nat) (l : List ByteArray) : Prop where
  kp : Keeps NoBlk w2 wr
  mp : ∃ n, MapFn wr Try.prog 9 Value.string (Value.int .i64) M n (cntF l)
  up : w2.heap.size ≤ M

theorem StW.keep {w2 wr wt : World} {M : Nat} {l : List ByteArray} (h : StW w2 wr M l) {S : Nat → Prop} (hk : Keeps S wr wt) (hS : ∀ k, S k → w2.heap.size ≤ k ∧ k ≠ M) : StW w2 wt M l := by
  obtain ⟨n, hm⟩ := h.mp
  exact ⟨h.kp.trans hk (fun k hk0 hs => by have := (hS k hs).1; omega), ⟨n, hm.at_block (hk.block M hm.lt (fun hs => (hS M hs).2 rfl))⟩, h.up⟩

theorem StW.look {w2 wr : World} {M : Nat} {l : List ByteArray} (h : StW w2 wr M l) {k : ByteArray} (hk : k.size ≤ maxLen) : (Instr.lookup 71 (.map (some M)) (.string k) false).run Try.prog wr = .ok (.int .i64 (cntN l k : Int)) wr := by
  obtain ⟨n, hm⟩ := h.mp
  have := hm.look false keyS Try.underlying71 (zeroI wr) strInj (keyOf_s hk)
  rw [cnt_get] at this
  exact this

theorem StW.store {w2 wr : World} {M : Nat} {l : List ByteArray} (h : StW w2 wr M l) {k : ByteArray} (hk : k.size ≤ maxLen) : ∃ o, (Instr.mapUpdate 71 (.map (some M)) (.string k) (.int .i64 ((cntN l k : Int) + 1))).run Try.prog wr = .ok () (setBlock wr M o) ∧ StW w2 (setBlock wr M o) M (l ++ [k]) ∧ Keeps (fun b => b = M) wr (setBlock wr M o) := by
  obtain ⟨n, hm⟩ := h.mp
  obtain ⟨o, ho⟩ := hm.store keyS Try.underlying71 strInj (keyOf_s hk) ((cntN l k : Int) + 1)
  obtain ⟨h1, h2⟩ := ho wr rfl
  rw [cnt_put] at h2
  have hkk : Keeps (fun b => b = M) wr (setBlock wr M o) := (Keeps.refl (fun b => b = M) wr).setBlock (fun _ => rfl) _
  exact ⟨o, h1, ⟨h.kp.trans hkk (fun b hb e => by have := h.up; omega), ⟨_, h2⟩, h.up⟩, hkk⟩

def encO2 (x : QOut) : List Value := [.string x.t.key, .int .i64 x.tok, .int .i64 x.t.att]
theorem encO2_len (x : QOut) : (encO2 x).length = 3 := rfl

/-- What Outs tells. -/
def OutsP (w : World) (hs : List Hold) (q : QS) (e : Ending) (w' : World) : Prop :=
  ∃ a c l, e = .returned (.slice a l.length c) ∧ l.map (fun x => (x.tok, x.t.key)) = hs ∧ (∀ x ∈ l, q.outs x.tok = some x) ∧ RowV w' 61 3 encO2 (.slice a l.length c) l ∧ Keeps NoBlk w w'

theorem outAt {w : World} {v : Value} {l : List QOut} (h : RowV w 61 3 encO2 v l) {i : Nat} (hi : i < l.length) :
    ∃ g cap, v = .slice (some ⟨g, 0, none⟩) l.length cap ∧ g < w.heap.size ∧ w.cell? ⟨g, i * 3, none⟩ = some (.string l[i].t.key) ∧ w.cell? ⟨g, i * 3 + 1, none⟩ = some (.int .i64 l[i].tok) ∧ w.cell? ⟨g, i * 3 + 2, none⟩ = some (.int .i64 l[i].t.att) := by
  rcases h.form with ⟨_, e⟩ | ⟨g, cap, rfl⟩
  · subst e; simp at hi
  · have hr : RowAt w 61 3 encO2 g cap l := h
    exact ⟨g, cap, rfl, hr.lt, hr.cell encO2_len hi (j := 0) (by omega), hr.cell encO2_len hi (j := 1) (by omega), hr.cell encO2_len hi (j := 2) (by omega)⟩

theorem OnceQ.few {q : QS} {kf : ByteArray → Option Int} {hs : List Hold} {i : Nat} (h : OnceQ q kf hs i) : hs.length ≤ i := by
  have hnd : (hs.map Prod.fst).Nodup := by
    refine List.Pairwise.map _ (fun a b hab => ?_) h.rise
    exact fun e => by have e2 : a.1 = b.1 := e; omega
  have := nodup_len (m := (List.range i).map (fun k : Nat => (k : Int) + 1)) hnd (fun k hk => by
    obtain ⟨z, hz, rfl⟩ := List.mem_map.1 hk
    have h1 := h.pos z hz
    have h2 := h.nx
    exact List.mem_map.2 ⟨(z.1 - 1).toNat, List.mem_range.2 (by omega), by omega⟩)
  simpa using this

theorem place_at {hs : List Hold} (hr : hs.Pairwise (fun a b => a.1 < b.1)) {tok a : Int} (hp : PlaceOf hs tok a) {j : Nat} (hj : j < hs.length) (he : hs[j].1 = tok) : a = j := by
  rcases hp with ⟨_, hn⟩ | ⟨m, hm, rfl, e⟩
  · exact absurd he (hn _ (List.getElem_mem hj))
  · rcases Nat.lt_trichotomy m j with h | h | h
    · have := List.pairwise_iff_getElem.1 hr m j hm hj h; omega
    · rw [h]
    · have := List.pairwise_iff_getElem.1 hr j m hj hm h; omega

set_option maxRecDepth 100000 in
set_option maxHeartbeats 4000000 in
theorem stand_c {w : World} {p : Nat} {S : Nat → Prop} {q : QS} {kf : ByteArray → Option Int} {hs : List Hold} {i : Nat} (h : IsQ w p S q) (hO : OnceQ q kf hs i) (hi : i ≤ 100) {kb kn : Nat} (hkn : kn ≤ 1000) (hkf : MapFn w Try.prog 9 Value.string (Value.int .i64) kb kn kf)
    {vh : Value} (hrh : RowV w 76 2 encH vh hs) (hout : ∀ W, Keeps NoBlk w W → Calls Try.prog 39 #[.pointer (some ⟨p, 0, none⟩)] W (OutsP W hs q)) :
    Calls Try.prog 47 #[.pointer (some ⟨p, 0, none⟩), .map (some kb), vh] w fun e w' => e = .returned (.bool true) ∧ Keeps NoBlk w w' := by
  have kI : ∀ k k', Value.int .i64 k = Value.int .i64 k' → k = k' := fun k k' h => by cases h; rfl
  have hwt := qwaits_o h (by have := hO.big; omega)
  have hmm := @run_makeMap Try.prog
  have hfew := hO.few
  have hwl := hO.big
  obtain ⟨ah, chh, hvh⟩ := holdsLen hrh
  subst hvh
  obtain ⟨N, hNh⟩ : ∃ N, hs.length = N := ⟨_, rfl⟩
  rw [hNh] at hrh ⊢
  go_enter Try.func47, Try.ntmps47
  go_wp2_with fail
  refine hwt.mono ?_
  rintro e w1 ⟨aw, cw, rfl, hrw, _, k1⟩
  go_wp2_with fail
  refine (hout w1 k1).mono ?_
  rintro e w2 ⟨ao, co, O, rfl, hOm, hOx, hro, k2⟩
  have k02 : Keeps NoBlk w w2 := k1.trans k2 (fun _ _ x => x)
  have hrw2 := hrw.at_block (fun b hb => k2.block b (World.ownsRow.lt hrw b hb).2 id)
  have hrh2 := hrh.at_block (fun b hb => k02.block b (World.ownsRow.lt hrh b hb).2 id)
  have hkf2 := hkf.at_block (k02.block kb hkf.lt id)
  have hq2 := h.keep k02 (fun _ _ x => x)
  obtain ⟨M, hM⟩ : ∃ M, w2.heap.size = M := ⟨_, rfl⟩
  obtain ⟨W, hW⟩ : ∃ W, q.waits.length = W := ⟨_, rfl⟩
  have hkl : (q.waits.map Task.key).length = W := by rw [List.length_map, hW]
  obtain ⟨keys, hkeys⟩ : ∃ keys, q.waits.map Task.key = keys := ⟨_, rfl⟩
  rw [hkeys] at hrw2 hkl
  rw [hW] at hrw2 hwl ⊢
  have hN : O.length = N := by rw [← hNh, ← hOm, List.length_map]
  have hsN : Hid (hs.length = N) := hNh
  rw [hN] at hro ⊢
  have hNf : N ≤ 100 := by have := hsN.out; omega
  have hwl1 : W ≤ 100 := by omega
  have hks : ∀ k ∈ keys, k.size ≤ maxLen := fun k hk => by
    rw [← hkeys] at hk
    obtain ⟨t, ht, rfl⟩ := List.mem_map.1 hk
    have := hO.ksz _ (by rw [(hO.wk t ht).1]; exact fun x => by cases x)
    unfold maxLen; omega
  have hok : ∀ x ∈ O, kf x.t.key = some x.t.att ∧ x.t.key.size ≤ maxLen := fun x hx => by
    obtain ⟨_, b, _⟩ := hO.ok _ x (hOx x hx)
    have := hO.ksz _ (by rw [b]; exact fun x => by cases x)
    exact ⟨b, by unfold maxLen; omega⟩
  have hall : keys ++ hs.map Prod.snd = q.waits.map Task.key ++ hs.map Prod.snd := by rw [hkeys]
  have hOk : O.map (fun x => x.t.key) = hs.map Prod.snd := by rw [← hOm, List.map_map]; rfl
  have hS0 : StW w2 (w2.alloc (.map #[] 0)) M [] := by
    refine ⟨(Keeps.refl _ _).alloc _, ⟨0, ?_⟩, by omega⟩
    rw [cnt_nil, ← hM]
    exact MapFn_made _ _ _ _ _
  have hkl' : Hid (keys.length = W) := hkl
  have hN' : Hid (O.length = N) := hN
  have hM' : Hid (w2.heap.size = M) := hM
  have hpl : Hid (∀ j (hj : j < O.length), ∃ h : j < hs.length, hs[j] = (O[j].tok, O[j].t.key)) := fun j hj => by
    subst hOm
    exact ⟨by rw [List.length_map]; exact hj, by rw [List.getElem_map]⟩
  have hrise := hO.rise
  clear hwt hrw hrh hkf h hout hN hNh hfew hwl hkl hkeys hOm
  go_wp2_with fail
  go_loopw [10] (fun iv wr => ∃ j : Nat, iv = .int .i64 j ∧ j ≤ W ∧ StW w2 wr M (keys.take j)) (fun iv _ => W - (intOf iv).toNat)
  case atStart => exact ⟨0, rfl, Nat.zero_le _, hS0⟩
  case round =>
    clear hS0
    obtain ⟨j, rfl, hjW, hS⟩ := hrel
    have jz : (0 : Int) ≤ j := by omega
    by_cases hlt : (j : Int) < W
    · have hjk : j < keys.length := by have := hkl'.out; omega
      obtain ⟨gw, cw', ev, _, q0⟩ := (hrw2.at_block (fun b hb => hS.kp.block b (World.ownsRow.lt hrw2 b hb).2 id)).str1 hjk
      cases ev
      obtain ⟨x, hx⟩ : ∃ x, keys[j] = x := ⟨_, rfl⟩
      have hxs : x.size ≤ maxLen := by rw [← hx]; exact hks _ (List.getElem_mem hjk)
      have htk : Hid (keys.take (j + 1) = keys.take j ++ [x]) := by show _ = _; rw [List.take_succ_eq_append_getElem hjk, hx]
      rw [hx] at q0
      have hlk := hS.look hxs
      obtain ⟨o, hst, hS2, _⟩ := hS.store hxs
      have hcl : cntN (keys.take j) x ≤ j := Nat.le_trans (cntN_le _ _) (by rw [List.length_take]; omega)
      obtain ⟨c, hc⟩ : ∃ c : Int, (cntN (keys.take j) x : Int) = c := ⟨_, rfl⟩
      rw [hc] at hlk hst
      have c0 : (0 : Int) ≤ c := by omega
      have c1 : c ≤ 1000 := by omega
      clear hx hc hcl hrw2 hro hrh2 hkf2 hq2 hks hok hall hOk hOx
      go_wp2_with fail
      go_roundw
      case rel => exact ⟨j + 1, by go_num, by omega, by rw [htk.out]; exact hS2⟩
      case measure => simp [intOf]; omega
    · have hjW : j = W := by omega
      subst hjW
      rw [List.take_of_length_le (Nat.le_of_eq hkl'.out)] at hS
      have hS1 := hS
      clear hS
      go_wp2_with fail
      go_loopw [11] (fun iv wt => ∃ m : Nat, iv = .int .i64 m ∧ m ≤ N ∧ StW w2 wt M (keys ++ (O.take m).map (fun x => x.t.key))) (fun iv _ => N - (intOf iv).toNat)
      case atStart => exact ⟨0, rfl, Nat.zero_le _, by simpa using hS1⟩
      case round =>
        clear hS1
        obtain ⟨m, rfl, hmN, hS⟩ := hrel
        have mz : (0 : Int) ≤ m := by omega
        by_cases hlt2 : (m : Int) < N
        · have hml : m < O.length := by rw [hN'.out]; omega
          have hro2 := hro.at_block (fun b hb => hS.kp.block b (World.ownsRow.lt hro b hb).2 id)
          obtain ⟨go, co', ev, hgo, q0, q1, q2⟩ := outAt hro2 hml
          rw [hN'.out] at ev
          cases ev
          obtain ⟨hmh, hme⟩ := hpl.out m hml
          obtain ⟨x, hx⟩ : ∃ x, O[m] = x := ⟨_, rfl⟩
          have hxm : x ∈ O := by rw [← hx]; exact List.getElem_mem hml
          obtain ⟨hkx, hxs⟩ := hok x hxm
          have htk : Hid (keys ++ (O.take (m + 1)).map (fun x => x.t.key) = (keys ++ (O.take m).map (fun x => x.t.key)) ++ [x.t.key]) := by
            show _ = _
            rw [List.take_succ_eq_append_getElem hml, hx, List.map_append, List.append_assoc]; rfl
          rw [hx] at q0 q1 q2 hme
          have hlk := hS.look hxs
          obtain ⟨o, hst, hS2, hk2⟩ := hS.store hxs
          have hcl : cntN (keys ++ (O.take m).map (fun x => x.t.key)) x.t.key ≤ j + m := Nat.le_trans (cntN_le _ _) (by rw [List.length_append, List.length_map, List.length_take, hkl'.out]; omega)
          obtain ⟨c, hc⟩ : ∃ c : Int, (cntN (keys ++ (O.take m).map (fun x => x.t.key)) x.t.key : Int) = c := ⟨_, rfl⟩
          rw [hc] at hlk hst
          have c0 : (0 : Int) ≤ c := by omega
          have c1 : c ≤ 1000 := by omega
          obtain ⟨w5, hw5⟩ : ∃ w5, setBlock wr M o = w5 := ⟨_, rfl⟩
          rw [hw5] at hst hS2 hk2
          have up : ∀ b, b < w2.heap.size → b ≠ M := fun b hb e => by have := hM'.out; omega
          have h5 : Keeps NoBlk w2 w5 := hS2.kp
          have hro5 := hro.at_block (fun b hb => h5.block b (World.ownsRow.lt hro b hb).2 id)
          have hrh5 := hrh2.at_block (fun b hb => h5.block b (World.ownsRow.lt hrh2 b hb).2 id)
          have hkf5 := hkf2.at_block (h5.block kb hkf2.lt id)
          obtain ⟨_, _, ev5, _, d0, d1, d2⟩ := outAt hro5 hml
          rw [hN'.out] at ev5
          cases ev5
          rw [hx] at d0 d1 d2
          obtain ⟨gh, ch, ehv, _, e0, e1⟩ := holdsAt hrh5 hmh
          rw [hsN.out] at ehv
          cases ehv
          rw [hme] at e0 e1
          have e1' : w5.cell? ⟨gh, m * 2 + 1, none⟩ = some (.string x.t.key) := e1
          have hheld := held_c hrh5 (by have := hsN.out; omega) x.tok
          have hpa := fun a hp => place_at (a := a) hrise hp hmh (by rw [hme] : hs[m].1 = x.tok)
          have hlkf : ∀ n, (Instr.lookup 71 (.map (some kb)) (.string x.t.key) false).run Try.prog (w5.drewN n) = .ok (.int .i64 x.t.att) (w5.drewN n) := fun n => by
            have := (hkf5.at_block (w' := w5.drewN n) rfl).look false keyS Try.underlying71 (zeroI (w5.drewN n)) strInj (keyOf_s hxs)
            rw [hkx] at this
            exact this
          have hprev : Hid (∀ l, m = l + 1 → ∃ y : Int, w5.cell? ⟨go, l * 3 + 1, none⟩ = some (.int .i64 y) ∧ ¬ x.tok ≤ y) := fun l hl => by
            have hll : l < O.length := by omega
            obtain ⟨_, _, ev6, _, _, f1, _⟩ := outAt hro5 hll
            rw [hN'.out] at ev6
            cases ev6
            refine ⟨_, f1, ?_⟩
            obtain ⟨h7, h8⟩ := hpl.out l hll
            have := List.pairwise_iff_getElem.1 hrise l m h7 hmh (by omega)
            rw [h8, hme] at this
            simp only at this
            omega
          clear hx hc hcl hrw2 hro hrh2 hkf2 hq2 hks hok hall hOk hOx hro2 e1 hrh5 hro5 hkf5 hme hpl hkx
          go_wp2_with fail
          refine hheld.mono ?_
          rintro e w6 ⟨a, rfl, hp6, rfl⟩
          have ea := hpa a hp6
          subst ea
          clear hheld hpa hp6 hlk hst
          rcases Nat.eq_zero_or_pos m with m0 | m0
          · subst m0
            have m1 : Hid (1 ≤ N) := by show _ ≤ _; omega
            go_wp2_with fail
            go_quiet (fail)
            go_wp2_with fail
            go_roundw
            case rel => exact ⟨1, by go_num, m1.out, by rw [htk.out]; exact hS2.keep ((Keeps.refl NoBlk _).drewN nq) (fun _ x => x.elim)⟩
            case measure => have := m1.out; first | omega | (simp [intOf]; omega)
          · obtain ⟨l, hl⟩ : ∃ l, m = l + 1 := ⟨m - 1, by omega⟩
            obtain ⟨y, hy1, hy2⟩ := hprev.out l hl
            have l1 : IntKind.i64.wrap ((m : Int) - 1) = (l : Int) := by rw [w64 (by omega)]; omega
            have l2 : IntKind.i64.wrap (l : Int) = (l : Int) := w64 (by omega)
            have l3 : (l : Int) < N := by omega
            have l4 : (0 : Int) ≤ l := by omega
            have l5 : (0 : Int) < m := by omega
            have m1 : Hid (m + 1 ≤ N) := by show _ ≤ _; omega
            have hl' : Hid (m = l + 1) := hl
            clear hl hprev
            go_wp2_with fail
            go_quiet (fail)
            go_wp2_with fail
            go_roundw
            case rel => exact ⟨m + 1, by go_num, m1.out, by rw [htk.out]; exact hS2.keep ((Keeps.refl NoBlk _).drewN nq) (fun _ x => x.elim)⟩
            case measure => have := m1.out; first | omega | (simp [intOf]; omega)
        · have hmN2 : m = N := by omega
          subst hmN2
          rw [List.take_of_length_le (Nat.le_of_eq hN'.out), hOk, hall] at hS
          have hkf3 := hkf2.at_block (hS.kp.block kb hkf2.lt id)
          have hq2' := hq2
          have hMl : M < wr.heap.size := by obtain ⟨_, h⟩ := hS.mp; exact h.lt
          have hup : w2.heap.size ≤ wr.heap.size := hS.kp.size
          clear hrw2 hro hrh2 hkf2 hq2
          obtain ⟨R, hR⟩ : ∃ R, wr.heap.size = R := ⟨_, rfl⟩
          obtain ⟨kr, hkr⟩ : ∃ kr, kr = Keeps.refl NoBlk wr := ⟨_, rfl⟩
          rw [hR] at hMl hup
          go_wp2_with (first
            | (at_range; refine wpList_range_fn _ rfl _ 71 3 rfl Try.underlying71 kb kn kf rfl hkf3 ?_; intro w7 hrg0 hw7; rw [hR] at hrg0 ⊢)
            | go_in)
          try go_frame
          have hS7 : StW w2 w7 M (q.waits.map Task.key ++ hs.map Prod.snd) := by
            obtain ⟨o, ho⟩ := hw7.out
            rw [ho]
            exact hS.keep (S := NoBlk) ((Keeps.refl _ _).alloc _) (fun _ x => x.elim)
          clear hS hw7 hkf3
          go_loopw [13] (fun lv wt => ∃ ps : List (ByteArray × Int), lv = .int .i64 ((ps.filter (fun p => decide (p.2 < 1000))).length : Nat) ∧ RangeFn wt Try.prog 9 Value.string (Value.int .i64) kb R kn kf ps ∧ StW w2 wt M (q.waits.map Task.key ++ hs.map Prod.snd)) (fun _ wt => leftN wt kb R)
          case atStart => exact ⟨[], rfl, hrg0, hS7⟩
          case round =>
            clear hrg0 hS7
            obtain ⟨ps, rfl, hrg, hS3⟩ := hrel
            have hleft := hrg.leftN
            have hpart := hrg.part strInj kI
            have hpl : ps.length ≤ kn := hpart.2.2
            obtain ⟨L, hL⟩ : ∃ L, (ps.filter (fun p => decide (p.2 < 1000))).length = L := ⟨_, rfl⟩
            rw [hL]
            go_wp2_with (first
              | (at_next; refine wpList_next_fn _ rfl _ rfl strInj kI kb R kn kf ps rfl hrg ?_ ?_)
              | go_in)
            · intro hall2
              have hcnt := hO.left (by omega) (ps := ps) hpart.2.1 (fun k n => ⟨hall2 k n, fun hm => hpart.1 (k, n) hm⟩)
              have hLe : (j : Int) + m = L := by
                rw [hL, hW, hsN.out] at hcnt; omega
              have hq4 := hq2'.keep hS3.kp (fun _ _ x => x)
              have hln := qlen_o hq4
              rw [hW] at hln
              have kp3 := k02.trans hS3.kp (fun _ _ x => x)
              clear hcnt hpart hrg hleft hall2 hL hW
              go_wp2_with fail
              refine hln.mono ?_
              rintro e w8 ⟨rfl, rfl⟩
              go_wp2_with fail
              go_ret
              exact ⟨rfl, kp3⟩
            · intro k n wx hf hnk hlt3 _ _ hrg2 hg2 hs2 hen
              have hMw : Keeps (fun b => b = R) wr wx := (Keeps.refl (fun b => b = R) wr).grown hg2 (fun b e _ => by cases e; rfl)
              have hS4 : StW w2 wx M (q.waits.map Task.key ++ hs.map Prod.snd) := hS3.keep hMw (fun b e => by subst e; exact ⟨hup, by omega⟩)
              have hks : k.size ≤ maxLen := by
                have := hO.ksz k (by rw [hf]; exact fun x => by cases x)
                unfold maxLen; omega
              have hlv := hO.lv k n hf
              have hlk := hS4.look hks
              have hleft2 := hrg2.leftN
              have hln : Hid ((ps ++ [(k, n)]).length = ps.length + 1) := by show _ = _; simp
              have hL1 : L ≤ ps.length := by rw [← hL]; exact List.length_filter_le _ _
              have hflt : Hid (((ps ++ [(k, n)]).filter (fun p => decide (p.2 < 1000))).length = if n < 1000 then L + 1 else L) := by
                show _ = _
                rw [List.filter_append, List.length_append, hL]
                by_cases hn : n < 1000 <;> simp [hn]
              by_cases hn : n < 1000
              · rw [cntN_one hO.nd (hlv.2.2 hn)] at hlk
                have hflt2 := hflt.out
                rw [if_pos hn] at hflt2
                have hfl3 : Hid _ := hflt2
                clear hflt2 hflt hlv hks hMw hS3 hrg hpart hL hg2 hs2 hnk hf hall
                go_wp2_with fail
                go_roundw
                case rel => exact ⟨ps ++ [(k, n)], by rw [hfl3.out]; go_num, hrg2, hS4⟩
                case measure => rw [hleft2, hleft, hln.out]; omega
              · have hflt2 := hflt.out
                rw [if_neg hn] at hflt2
                have hfl3 : Hid _ := hflt2
                clear hflt2 hflt hlv hks hMw hS3 hrg hpart hL hg2 hs2 hnk hf hall hlk
                go_wp2_with fail
                go_roundw
                case rel => exact ⟨ps ++ [(k, n)], by rw [hfl3.out], hrg2, hS4⟩
                case measure => rw [hleft2, hleft, hln.out]; omega

end Go.Proofs.Ytofdcmbjcpfabaa
