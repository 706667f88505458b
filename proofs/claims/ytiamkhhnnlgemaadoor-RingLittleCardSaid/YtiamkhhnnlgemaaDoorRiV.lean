/- The program's Walk (printed by genV.py). -/
import Derived.Test.YtiamkhhnnlgemaaDoorRiU
import Derived.Maps.OwnIn
import Derived.Deep.Onto
import Derived.Sort.OwnSorted
namespace Go.Proofs.YtiamkhhnnlgemaaDoor.Ri
open Go.RowKit Go.Shelf Go.Maps Go.Proofs.YtiamkhhnnlgemaaDoor.Sip
set_option linter.unusedVariables false
attribute [local go_sem] Oper.semAt_some
set_option maxRecDepth 100000 in
set_option maxHeartbeats 2000000 in
theorem round1_mem (n : Nat) (hn : 1 ≤ n) (l B1 B2 rb a : Nat) (ps : List Pt) (hN : ps.length ≤ 1000000) (ha : ps = [] ∨ a < ps.length) (J Jx : List Pt → World → Prop) (W0 W : World)
    (hY : ∀ pre x W, x ∈ ps → J pre W → pre.length < ps.length → YieldAt Fence.wide (n - 1) Tryd.prog l #[ptA x] W fun e W' =>
      (e = .returned (.bool true) ∧ J (pre ++ [x]) W' ∧ KpR W0.heap.size B1 B2 W W') ∨ (e = .returned (.bool false) ∧ Jx (pre ++ [x]) W'))
    (hR0 : Rng W0 rb ps) (hbW : Below W0.heap.size W0 W) (hB1 : Blk W B1 #[.pointer (some ⟨rb, 0, none⟩)] 28) (hB2 : Blk W B2 #[.int .i64 a] 3) (hJ : AbidesFrom W.heap.size J) (h0 : J [] W) :
    CallsIn Fence.wide n Tryd.prog 43 #[.func (.yield l) #[] #[], .pointer (some ⟨B1, 0, none⟩), .pointer (some ⟨B2, 0, none⟩)] W fun e W' => (∃ v, e = .returned v) ∧
      ((∃ ys, ys = roundL ps a ∧ J ys W') ∨ (∃ pre, pre <+: roundL ps a ∧ Jx pre W')) := by
  have hR1 : Rng W rb ps := hR0.below hbW
  have h3 := hR0
  obtain ⟨v0, hbk0, A0, c0, rfl, hc0, hr0⟩ := h3
  have hrb := hbk0.lt
  have hrc0 := hbk0.cell (i := 0) rfl
  have k1 := hB1.cell (i := 0) rfl
  have k2 := hB2.cell (i := 0) rfl
  have hrc := (hbW.cell (p := ⟨rb, 0, none⟩) hrb).trans hrc0
  have hrl : (roundL ps a).length = ps.length := by
    rcases ha with h | h
    · subst h; simp [roundL]
    · exact round_len _ _ (by omega)
  refine callsIn_of_wp Tryd.func43 rfl trivial ?_ rfl
  simp only [Tryd.ntmps43, List.size_toArray, List.length_cons, List.length_nil, Nat.reduceAdd, Nat.reduceSub, Array.replicate_succ, Array.replicate_zero, List.push_toArray, List.append_toArray, List.nil_append, List.cons_append]
  gi_wp2
  gi_loopw [10] (fun i wr => ∃ k : Nat, k ≤ ps.length ∧ i = .int .i64 k ∧ J ((roundL ps a).take k) wr ∧ KpR W0.heap.size B1 B2 W wr)
    (fun i _ => ps.length - (intOf i).toNat)
  case atStart => exact ⟨0, Nat.zero_le _, rfl, h0, KpR.refl _ _ _ _⟩
  case round =>
    obtain ⟨k, hk, rfl, hJs, hnx⟩ := hrel
    by_cases hlt : k < ps.length
    · obtain ⟨b, o, rfl, hlb, hx⟩ := hr0 (by omega)
      have hB0 := hbW.trans hnx.1
      have k3 : Blk wr B1 #[.pointer (some ⟨rb, 0, none⟩)] 28 := hnx.2.1.trans hB1
      have k4 : Blk wr B2 #[.int .i64 a] 3 := hnx.2.2.trans hB2
      have hal : a < ps.length := by rcases ha with h | h; (subst h; simp at hlt); exact h
      have hml : (a + k) % ps.length < ps.length := Nat.mod_lt _ (by omega)
      obtain ⟨p, hp⟩ : ∃ p, ps[(a + k) % ps.length]? = some p := ⟨_, List.getElem?_eq_getElem hml⟩
      obtain ⟨e0, e1⟩ := hx _ p hp
      have hrg := round_get ps a k hal hlt
      rw [hp] at hrg
      have htk := Lib.hid (show (roundL ps a).take (k + 1) = (roundL ps a).take k ++ [p] by rw [List.take_add_one, hrg]; rfl)
      have q0 := (hB0.cell (p := ⟨b, o + (a + k) % ps.length * 2, none⟩) hlb).trans e0
      have q1 := (hB0.cell (p := ⟨b, o + (a + k) % ps.length * 2 + 1, none⟩) hlb).trans e1
      have q2 := (hB0.cell (p := ⟨rb, 0, none⟩) hrb).trans hrc0
      have q3 := k3.cell (i := 0) rfl
      have q4 := k4.cell (i := 0) rfl
      have x1 : IntKind.i64.wrap ((a : Int) + (k : Int)) = (a : Int) + (k : Int) := IntWalk.i64_in _ (by omega)
      have x2 : ((a : Int) + (k : Int)).tmod (ps.length : Int) = (((a + k) % ps.length : Nat) : Int) := rfl
      have x3 : ¬ (ps.length : Int) = 0 := by omega
      have x4 : ¬ ps.length = 0 := by omega
      generalize (a + k) % ps.length = ix at *
      have z1 : (0 : Int) ≤ (ix : Int) := by omega
      have z2 : (ix : Int) < (ps.length : Int) := by omega
      have hJ2 : J ((roundL ps a).take k) wr.drew := hJ _ wr wr.drew none hJs ⟨rfl, rfl, rfl, Nat.le_refl _, fun _ _ _ => rfl⟩ (fun r e => by cases e)
      have hnx2 : KpR W0.heap.size B1 B2 W wr.drew := ⟨hnx.1.drew, hnx.2.1, hnx.2.2⟩
      obtain ⟨fn, tmps, assign, body, hy, hR⟩ := hY _ p _ (List.mem_of_getElem? hp) hJ2 (by rw [List.length_take]; omega)
      unfold ptA at hy
      clear e0 e1 hx hrg hp
      gi_wp2
      refine wpInW_region_still_tail 16 mixed_ok (by kernel_rfl) (by kernel_rfl) ?_
      simp only [List.take_succ_cons, List.take_zero, List.drop_succ_cons, List.drop_zero]
      repeat (first | still_step)
      (try refine wpStill_nil ?_)
      gi_wp2
      refine hR.mono ?_
      rintro e W3 (⟨rfl, hJ3, hk3⟩ | ⟨rfl, hJx3⟩)
      · gi_wp2
        go_roundw
        case rel => exact ⟨k + 1, by omega, by simp, by rw [htk.out]; exact hJ3, hnx2.trans hk3⟩
        case measure => simp [intOf]; omega
      · gi_wp2
        refine bodyPost_ret (results_none rfl _ _ _) rfl ?_
        exact ⟨⟨_, rfl⟩, .inr ⟨_, by rw [← htk.out]; exact List.take_prefix _ _, hJx3⟩⟩
    · obtain rfl : k = ps.length := by omega
      gi_wp2
      go_end0
      exact ⟨⟨_, rfl⟩, .inl ⟨_, List.take_of_length_le (by omega), hJs⟩⟩

theorem round_stopsM (n : Nat) (hn : 1 ≤ n) (B1 B2 rb a : Nat) (ps : List Pt) (hN : ps.length ≤ 1000000) (ha : ps = [] ∨ a < ps.length) (W0 w : World) (hR0 : Rng W0 rb ps) (hb0 : Below W0.heap.size W0 w)
    (hB1 : Blk w B1 #[.pointer (some ⟨rb, 0, none⟩)] 28) (hB2 : Blk w B2 #[.int .i64 a] 3) :
    SeqStopsK Fence.wide n Tryd.prog 43 #[.pointer (some ⟨B1, 0, none⟩), .pointer (some ⟨B2, 0, none⟩)] (fun x : {p : Pt // p ∈ ps} => #[ptA x.1]) (KpR W0.heap.size B1 B2) (fun ys => ys.map Subtype.val = roundL ps a) (fun pre => pre.map Subtype.val <+: roundL ps a) ps.length w := fun l J Jx W hW hJ _ hY h0 => by
  refine (round1_mem n hn l B1 B2 rb a ps hN ha (fun l W => ∃ l' : List {p : Pt // p ∈ ps}, l = l'.map Subtype.val ∧ J l' W) (fun l W => ∃ l' : List {p : Pt // p ∈ ps}, l = l'.map Subtype.val ∧ Jx l' W) W0 W ?_ hR0 (hb0.trans (hW.mono hb0.size)) (hB1.below hW) (hB2.below hW) ?_ ⟨[], rfl, h0⟩).mono ?_
  · rintro pre x W hx ⟨l', rfl, hl⟩ hlt
    refine (hY l' ⟨x, hx⟩ W hl (by simpa using hlt)).mono ?_
    rintro e W' (⟨h1, h2, h3⟩ | ⟨h1, h2⟩)
    · exact .inl ⟨h1, ⟨_, by simp, h2⟩, h3⟩
    · exact .inr ⟨h1, ⟨_, by simp, h2⟩⟩
  · rintro s X Y row ⟨l', rfl, hl⟩ hg hr
    exact ⟨l', rfl, hJ _ _ _ _ hl hg hr⟩
  · rintro e W' ⟨h1, ⟨ys, h2, l', h3, h4⟩ | ⟨pre, h2, l', h3, h4⟩⟩
    · exact ⟨h1, .inl ⟨l', (show List.map Subtype.val l' = roundL ps a by rw [← h3, h2]), h4⟩⟩
    · exact ⟨h1, .inr ⟨l', (show List.map Subtype.val l' <+: roundL ps a by rw [← h3]; exact h2), h4⟩⟩
/-- The names that came, as a map. -/
def setN (O : List (List UInt8)) : DataW Unit := setOf (.agg []) (O.map Lit.string)
theorem setN_snoc (O : List (List UInt8)) (n : List UInt8) : setN (O ++ [n]) = (setN O).put (Lit.string n) (.agg []) := by
  unfold setN; rw [List.map_append]; exact setOf_snoc _ _ _
theorem setN_has (O : List (List UInt8)) (n : List UInt8) : Maps.has (setN O) (Lit.string n) = decide (n ∈ O) := by
  have h := seen_has (O.map (fun x => (x, 0))) n
  have e : seenOf (O.map (fun x => (x, 0))) = setN O := by unfold seenOf setN; rw [List.map_map]; rfl
  rw [e] at h
  rw [h, List.map_map, show (Prod.fst ∘ fun x : List UInt8 => (x, (0 : Int))) = id from rfl, List.map_id]
/-- What the loop of Walk holds at the names O. -/
def WkI (w : World) (n1 : Nat) (O : List (List UInt8)) (W : World) : Prop :=
  Blk W (w.heap.size + 1) #[.map (some w.heap.size)] 76 ∧
  (∃ v, Blk W (w.heap.size + 1 + 1) #[v] 51 ∧ W.ownsRow n1 9 1 v O.length (O.map (fun x => Value.string (mk x)))) ∧
  W.ownsMap Tryd.prog 9 (unitElem (H := Unit)) w.heap.size O.length (setN O) ∧ n1 ≤ W.heap.size
theorem WkI.keep {w X Y : World} {n1 : Nat} {O : List (List UInt8)} {row : Option Nat} (h : WkI w n1 O X) (hn : w.heap.size + 1 + 1 < n1) (hg : X.grownBy Y row) (hr : ∀ r, row = some r → n1 ≤ r ∧ ∃ o : Obj, X.heap[r]? = some o ∧ o.isCells = false) : WkI w n1 O Y := by
  obtain ⟨h1, ⟨v, h2, h3⟩, h4, h5⟩ := h
  refine ⟨h1.grown hg (fun e => by have := (hr _ e.symm).1; omega), ⟨v, h2.grown hg (fun e => by have := (hr _ e.symm).1; omega), h3.kept hg ?_⟩, h4.kept hg (fun e => by have := (hr _ e.symm).1; omega), Nat.le_trans h5 hg.size⟩
  rcases h3.2 with ⟨rfl, _⟩ | ⟨g, cap, cur, rfl, _, hgb, _⟩
  · exact .inl rfl
  · refine .inr fun e' => ?_
    obtain ⟨o, ho, hc⟩ := (hr g (by simpa [Value.ownBlock] using e'.symm)).2
    rw [hgb] at ho; cases ho; cases hc
theorem row_cells {w : World} {base : Nat} {e : TypeId} {size : Nat} {v : Value} {n : Nat} {xs : List Value} (h : w.ownsRow base e size v n xs) {j : Nat} {o : Obj} (ej : v.ownBlock = some j) (hj : w.heap[j]? = some o) : o.isCells = true := by
  rcases h.2 with ⟨rfl, _⟩ | ⟨g, cap, cur, rfl, _, hgb, _⟩
  · simp [Value.ownBlock] at ej
  · obtain rfl : g = j := by simpa [Value.ownBlock] using ej
    rw [hgb] at hj; cases hj; rfl
set_option maxRecDepth 100000 in
set_option maxHeartbeats 2000000 in
theorem walk_any (ps : List Pt) (hs : SrtP ps) (x : Int) (rb : Nat) (w : World) (hv : Rng w rb ps) (hN : ps.length ≤ 1000000) (hT : ∀ p ∈ ps, p.2.length ≤ 1000) :
    Calls Tryd.prog 19 #[.pointer (some ⟨rb, 0, none⟩), .int .u64 x] w fun e w' => ∃ u, e = .returned u ∧ OwnStrs w' w.heap.size u (walkF (roundL ps (fromN ps x))) ∧ Below w.heap.size w w' := by
  obtain ⟨i1, hi1, hy0, hy1, hy2⟩ := info_parts infoStr2
  have hbA := (((Below.refl _ w).alloc (Nat.le_refl _) (.map #[] 0)).alloc (by simp) (.cells #[.map (some w.heap.size)] 76)).alloc (by simp; omega) (.cells #[.slice none 0 0] 51)
  have hmA := ((World.ownsMap_made w Tryd.prog 9 (unitElem (H := Unit))).alloc (.cells #[.map (some w.heap.size)] 76)).alloc (.cells #[.slice none 0 0] 51)
  have hkS := Blk.new (w.alloc (.map #[] 0)) #[.map (some w.heap.size)] 76
  have hkO := Blk.new ((w.alloc (.map #[] 0)).alloc (.cells #[.map (some w.heap.size)] 76)) #[.slice none 0 0] 51
  replace hkS := hkS.below ((Below.refl _ _).alloc (Nat.le_refl _) (.cells #[.slice none 0 0] 51))
  have hzA : w.heap.size + 1 + 1 < (((w.alloc (.map #[] 0)).alloc (.cells #[.map (some w.heap.size)] 76)).alloc (.cells #[.slice none 0 0] 51)).heap.size := by simp
  simp only [World.size_alloc] at hkS hkO
  have dF := from_any ps hs x rb _ (hv.below hbA) hN
  have hfl := fromN_lt ps x
  generalize fromN ps x = a at *
  refine (callsIn_wide (n := 10)).1 ?_
  refine callsIn_of_wp_marks Tryd.func19 rfl trivial ?_ rfl
  simp only [Tryd.ntmps19, List.size_toArray, List.length_cons, List.length_nil, Nat.reduceAdd, Nat.reduceSub, Array.replicate_succ, Array.replicate_zero, List.push_toArray, List.append_toArray, List.nil_append, List.cons_append]
  have hmm := @run_makeMap Tryd.prog
  gi_wp2_with (first
    | (refine ⟨trivial, ?_⟩; gi_at_call 30; refine (callsIn_wide.2 dF).mono ?_; rintro e w1 ⟨rfl, hb1⟩)
    | (refine ⟨trivial, ?_⟩; gi_at_call 29; refine (round_in _ rb a _).mono ?_; rintro e w2 ⟨rfl, rfl⟩))
  have hbW := hbA.trans ((hb1.mono (by omega)))
  have hg1 : w.heap.size + 1 + 1 < w1.heap.size := Nat.lt_of_lt_of_le hzA hb1.size
  have hkS1 := hkS.below hb1
  have hkO1 := hkO.below hb1
  have hm1 := hmA.kept (row := none) ⟨hb1.os, hb1.tape, hb1.output, hb1.size, fun k hk _ => hb1.block k hk⟩ (by simp)
  have hB1 := Blk.new w1 #[.pointer (some ⟨rb, 0, none⟩)] 28
  have hB2 := Blk.new (w1.alloc (.cells #[.pointer (some ⟨rb, 0, none⟩)] 28)) #[.int .i64 a] 3
  rw [World.size_alloc] at hB2
  have hB1' := hB1.below ((Below.refl _ _).alloc (Nat.le_refl _) (.cells #[.int .i64 a] 3))
  have hbW2 := (hbW.alloc (by omega) (.cells #[.pointer (some ⟨rb, 0, none⟩)] 28)).alloc (by simp; omega) (.cells #[.int .i64 a] 3)
  have hkS2 := (hkS1.below ((Below.refl _ _).alloc (Nat.le_refl _) (.cells #[.pointer (some ⟨rb, 0, none⟩)] 28))).below ((Below.refl _ _).alloc (Nat.le_refl _) (.cells #[.int .i64 a] 3))
  have hkO2 := (hkO1.below ((Below.refl _ _).alloc (Nat.le_refl _) (.cells #[.pointer (some ⟨rb, 0, none⟩)] 28))).below ((Below.refl _ _).alloc (Nat.le_refl _) (.cells #[.int .i64 a] 3))
  have hm2 := (hm1.alloc (.cells #[.pointer (some ⟨rb, 0, none⟩)] 28)).alloc (.cells #[.int .i64 a] 3)
  have hz2 : w1.heap.size + 1 < ((w1.alloc (.cells #[.pointer (some ⟨rb, 0, none⟩)] 28)).alloc (.cells #[.int .i64 a] 3)).heap.size := by simp
  clear hB1 hbW hb1 hbA hzA dF hkS hkO hkS1 hkO1 hmA hm1
  generalize (w1.alloc (.cells #[.pointer (some ⟨rb, 0, none⟩)] 28)).alloc (.cells #[.int .i64 a] 3) = w2 at *
  generalize w1.heap.size = q at *
  have hgw2 : w.heap.size + 1 + 1 < w2.heap.size := by omega
  have hI0 : WkI w w2.heap.size [] w2 := ⟨hkS2, ⟨_, hkO2, World.ownsRow_nil _ _ _ _⟩, hm2, Nat.le_refl _⟩
  refine wpIn_rangeFunc_ownH (F := Fence.wide) rfl (by decide) (gf := 43) (lb := #[.pointer (some ⟨q, 0, none⟩), .pointer (some ⟨q + 1, 0, none⟩)]) rfl trivial (enters_of Tryd.func43 (by kernel_rfl) rfl)
    (round_stopsM 9 (by decide) q (q + 1) rb a ps hN hfl w w2 hv hbW2 hB1' hB2) (fun h k => KpR.trans h k) (KpR.put (by omega) (by omega) (by omega)) (Below.refl _ _) (fun _ => rfl)
    (fun pre W => WkI w w2.heap.size (walkF (pre.map Subtype.val)) W ∧ Below w.heap.size w W)
    (fun c pre W => False)
    (OwnFrom.and (fun s X Y row hs hg hr => hs.keep hgw2 hg hr) (ownFrom_below (Nat.le_refl _) (by omega)))
    (fun c _ _ _ _ hs _ _ => hs)
    ⟨hI0, hbW2⟩
    (fun p a' W => ∃ Bx, w2.heap.size ≤ Bx ∧ Blk W Bx #[.int .u64 p.1.1, .string (mk p.1.2)] 67 ∧ a' = { tmps := #[.pointer (some ⟨rb, 0, none⟩), .int .u64 x, undef, undef, .slice none 0 0, .pointer (some ⟨w.heap.size + 1, 0, none⟩), .pointer (some ⟨w.heap.size + 1 + 1, 0, none⟩), .pointer (some ⟨Bx, 0, none⟩), undef, undef, .map (some w.heap.size), .pointer (some ⟨rb, 0, none⟩), .pointer (some ⟨rb, 0, none⟩), .int .u64 x, .int .i64 a, .func (.func 43) #[] #[.pointer (some ⟨q, 0, none⟩), .pointer (some ⟨q + 1, 0, none⟩)], .agg #[.int .u64 p.1.1, .string (mk p.1.2)], undef, undef, undef, undef, undef, undef, undef, undef, undef, undef, undef, undef, undef, undef, undef, undef, undef, undef, undef], defers := [] })
    (fun p a' _ X Y row hs hg hr => by obtain ⟨Bx, h1, h2, h3⟩ := hs; exact ⟨Bx, h1, blk_keep h2 hg (fun r e => (hr r e).2), h3⟩)
    ?assign ?body ?done ?stop
  case assign =>
    rintro l pre p W K ⟨hI, hB⟩ hK
    have hI5 := hI.2.2.2
    unfold ptA at hK ⊢
    gi_wp2
    exact hK _ _ ((KeepsOthers.alloc _ _).from _) ⟨(Below.refl _ W).alloc (by omega) _, Below.heap_alloc _ _ _ (by omega), Below.heap_alloc _ _ _ (by omega)⟩ ⟨hI.keep hgw2 (World.grownBy_alloc _ _ none) (fun r e => by cases e), hB.alloc (by omega) _⟩ ⟨W.heap.size, hI5, Blk.new W _ _, rfl⟩
  case body =>
    rintro l pre p a' W hl ⟨r, hr⟩ ⟨hI, hB⟩ ⟨Bx, hBx, bX, rfl⟩ hlt
    have hpl := hT p.1 p.2
    have hO1 : (walkF (pre.map Subtype.val)).length ≤ 1000000 := by have := walkF_len (pre.map Subtype.val); rw [List.length_map] at this; omega
    have hOn := Lib.hid (show walkF ((pre ++ [p]).map Subtype.val) = addN (walkF (pre.map Subtype.val)) p.1 by rw [List.map_append]; exact walkF_snoc _ _)
    generalize walkF (pre.map Subtype.val) = O at *
    obtain ⟨⟨pa, n⟩, hpm⟩ := p
    simp only at bX hpl hOn
    have hkey : keyOf Tryd.prog 9 (.string (mk n)) = some (.string n) := Go.WideMaps.keyOf_string_mk Tryd.underlying9 (by rw [mk_size]; unfold maxLen; omega)
    obtain ⟨kS, ⟨v, kO, hrow⟩, hmap, hsz⟩ := hI
    have c0 := bX.cell (i := 0) rfl
    have c1 := bX.cell (i := 1) rfl
    have cS := kS.cell (i := 0) rfl
    have cO := kO.cell (i := 0) rfl
    have fO := kO.free (i := 0)
    have hhas := setN_has O n
    have hlW := World.size_alloc W (.cells #[] 77)
    have hAl : Below W.heap.size W (W.alloc (.cells #[] 77)) := (Below.refl _ _).alloc (Nat.le_refl _) _
    have bX1 := bX.below hAl
    have kS1 := kS.below hAl
    have kO1 := kO.below hAl
    have hrow1 := hrow.alloc (.cells #[] 77)
    have hmap1 := hmap.alloc (.cells #[] 77)
    have c11 := bX1.cell (i := 1) rfl
    have cS1 := kS1.cell (i := 0) rfl
    have cO1 := kO1.cell (i := 0) rfl
    have hBW : Below w.heap.size W (W.alloc (.cells #[] 77)) := hAl.mono (by omega)
    have hKA := KeepsOthers.alloc W (.cells #[] 77)
    have hq1 : (W.alloc (.cells #[] 77)).heap[q]? = W.heap[q]? := Below.heap_alloc _ _ _ (by omega)
    have hq2 : (W.alloc (.cells #[] 77)).heap[q + 1]? = W.heap[q + 1]? := Below.heap_alloc _ _ _ (by omega)
    by_cases hin : n ∈ O
    · have hX := Lib.hid (show addN O (pa, n) = O from if_pos hin)
      rw [decide_eq_true hin] at hhas
      clear cO1 c11 cS1
      gi_wp2_with (first
        | (gi_at_lookup; refine wpListIn_lookup_own_unit _ rfl _ _ 76 rfl 9 77 (string_keyed Tryd.underlying9) Tryd.underlying76 (zeroU _) w.heap.size O.length (setN O) rfl hmap _ _ rfl hkey ?_; rw [hhas]))
      exact ⟨hKA.from _, ⟨hBW, hq1, hq2⟩, by rw [hOn.out, hX.out]; exact ⟨kS1, ⟨v, kO1, hrow1⟩, hmap1, by omega⟩, hB.trans hBW⟩
    · have hX := Lib.hid (show addN O (pa, n) = O ++ [n] from if_neg hin)
      rw [decide_eq_false hin] at hhas
      gi_wp2_with (first
        | (gi_at_lookup; refine wpListIn_lookup_own_unit _ rfl _ _ 76 rfl 9 77 (string_keyed Tryd.underlying9) Tryd.underlying76 (zeroU _) w.heap.size O.length (setN O) rfl hmap _ _ rfl hkey ?_; rw [hhas])
        | (gi_at_mapUpdate; refine wpListIn_mapUpdate_own _ rfl _ _ _ 76 rfl 9 77 (string_keyed Tryd.underlying9) Tryd.underlying76 (unitElem (H := Unit)) w.heap.size O.length _ rfl hmap1 (by unfold maxLen; omega) _ _ _ rfl rfl hkey _ [] unitElem_mk ?_; intro w5 hown5 hgrow5
           have kS5 := kS1.grown hgrow5 (fun e => by have := Option.some.inj e; omega)
           have kO5 := kO1.grown hgrow5 (fun e => by have := Option.some.inj e; omega)
           have bX5 := bX1.grown hgrow5 (fun e => by have := Option.some.inj e; omega)
           have hrow5 := hrow1.kept hgrow5 (.inr (row_ne_low hrow1 (show w.heap.size < w2.heap.size by omega)).symm)
           have c51 := bX5.cell (i := 1) rfl
           have cS5 := kS5.cell (i := 0) rfl
           have cO5 := kO5.cell (i := 0) rfl)
        | (gi_at_builtin; refine wpListIn_append_own _ rfl _ _ 51 rfl w2.heap.size 9 i1 _ 1 16 Tryd.underlying51 hi1 hy0 hy1 hy2 rfl (by decide) _ _ _ rfl (hrow5.alloc _) ⟨w5.heap.size, 0, none⟩ 1 1 [.string (mk n)] rfl rfl (cell_one_new _ _ _) (by simp [Value.oneCell']) (by unfold maxLen; omega) (by omega) (by have := hgrow5.size; simp; omega) ?_; intro v' w6 hown6 hgrow6 _; obtain ⟨g', cap', rfl⟩ := ownsRow_succ hown6
           have kO6 := (kO5.below ((Below.refl _ _).alloc (Nat.le_refl _) (.cells #[.string (mk n)] 9))).grown hgrow6 (row_ne_low hrow5 (by omega))
           have cO6 := kO6.cell (i := 0) rfl
           have fO6 := kO6.free (i := 0)))
      have hz5 := hgrow5.size
      have hz6 := hgrow6.size
      simp only [World.size_alloc] at hz5 hz6
      have e1 : Below w.heap.size W w5 := hBW.grown hgrow5 (by simp; omega) (fun k e => by have := Option.some.inj e; omega)
      have e2 : Below w.heap.size W (w5.alloc (.cells #[.string (mk n)] 9)) := e1.alloc (by omega) _
      have e3 : Below w.heap.size W w6 := e2.grown hgrow6 (by simp; omega) (fun b e => by have := (hrow5.lt b e).1; omega)
      have e4 : Below w.heap.size W (w6.setCell ⟨w.heap.size + 1 + 1, 0, none⟩ (.slice (some ⟨g', 0, none⟩) (O.length + 1 : Nat) cap')) := e3.setCell (p := ⟨w.heap.size + 1 + 1, 0, none⟩) (by show _ ≤ w.heap.size + 1 + 1; omega) _
      have kS6 := (kS5.below ((Below.refl _ _).alloc (Nat.le_refl _) (.cells #[.string (mk n)] 9))).grown hgrow6 (row_ne_low hrow5 (by omega))
      have hQ : ∀ k, w.heap.size + 1 + 1 < k → k < w2.heap.size → (w6.setCell ⟨w.heap.size + 1 + 1, 0, none⟩ (.slice (some ⟨g', 0, none⟩) (O.length + 1 : Nat) cap')).heap[k]? = W.heap[k]? := fun k h1 h2 =>
        (Below.heap_setCell w6 ⟨w.heap.size + 1 + 1, 0, none⟩ _ k (by show k ≠ w.heap.size + 1 + 1; omega)).trans ((hgrow6.block k (by simp; omega) (row_ne_low hrow5 h2)).trans ((Below.heap_alloc _ _ _ (by omega)).trans ((hgrow5.block k (by simp; omega) (fun e => by have := Option.some.inj e; omega)).trans (Below.heap_alloc _ _ _ (by omega)))))
      refine ⟨(hKA.from _).trans ((KeepsFrom.of_grownBy hgrow5 (fun j e => by have := Option.some.inj e; omega)).trans (((KeepsOthers.alloc _ _).from _).trans (((KeepsOthers.of_grownBy hgrow6 (fun j o ej hj => row_cells (hrow5.alloc _) ej hj)).from _).trans ((KeepsOthers.setCell _ _ _).from _)))), ⟨e4, hQ q (by omega) (by omega), hQ (q + 1) (by omega) (by omega)⟩, ?_, hB.trans e4⟩
      rw [hOn.out, hX.out]
      refine ⟨kS6.far _ (by omega), ⟨_, kO6.set (i := 0) _, ?_⟩, ?_, ?_⟩
      · rw [List.map_append, List.length_append]
        exact hown6.kept (grownBy_setCell' w6 _ _) (.inr (row_ne_low hown6 (by omega)).symm)
      · rw [setN_snoc, List.length_append]
        exact ((hown5.alloc _).kept hgrow6 (row_ne_low hrow5 (by omega))).kept (grownBy_setCell' w6 _ _) (fun e => by have := Option.some.inj e; omega)
      · have := (KeepsWalks.setCell w6 ⟨w.heap.size + 1 + 1, 0, none⟩ (.slice (some ⟨g', 0, none⟩) (O.length + 1 : Nat) cap')).size
        omega
  case done =>
    rintro D ys W hD hys ⟨⟨kS, ⟨v, kO, hrow⟩, hmap, hsz⟩, hB⟩ hK
    have cO := kO.cell (i := 0) rfl
    rw [hys] at hrow
    gi_wp2
    refine ⟨by simp, .inl ⟨_, _, rfl, run_takeDeferred hK, ?_⟩⟩
    exact ⟨_, results_tmp rfl _ _ _, v, rfl, (ownsRow_putObj hrow _ hK rfl).mono (by omega), hB.trans (belowK_b (w := w) (Nat.le_refl _) W D _ _ (by omega) hK rfl rfl)⟩
  case stop =>
    rintro D c pre W _ _ h _
    exact h.elim
end Go.Proofs.YtiamkhhnnlgemaaDoor.Ri
