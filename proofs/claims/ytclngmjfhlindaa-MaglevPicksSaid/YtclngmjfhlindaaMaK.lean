/- The table's accessors. -/
import Derived.Test.YtclngmjfhlindaaMaJ
namespace Go.Proofs.Ytclngmjfhlindaa.Ma
open Go.RowKit Go.Proofs.Ytclngmjfhlindaa.Sip
set_option linter.unusedVariables false
def nameAt (names : List (List UInt8)) (p : Int) : List UInt8 := if p = -1 then [] else names.getD p.toNat []
def atS (names : List (List UInt8)) (P : List Int) (j : Int) : List UInt8 := if j < 0 then [] else match P[j.toNat]? with | none => [] | some p => nameAt names p
/-- Places name names, or nobody. -/
def Vals (names : List (List UInt8)) (P : List Int) : Prop := ∀ p ∈ P, p = -1 ∨ (0 ≤ p ∧ p < names.length)
theorem Tab.below {w w' : World} {tb : Nat} {names : List (List UInt8)} {P : List Int} (h : Tab w tb names P) (hb : Below w.heap.size w w') : Tab w' tb names P := by
  have hl := h.lt
  obtain ⟨nv, pb, pc, h1, h2, h3, A, c, rfl, hc, hr⟩ := h
  refine ⟨_, pb, pc, (hb.block tb hl).trans h1, h2, h3.below hb, A, c, rfl, hc, fun hp => ?_⟩
  obtain ⟨q, o, rfl, hq, hx⟩ := hr hp
  exact ⟨q, o, rfl, Nat.lt_of_lt_of_le hq hb.size, fun j x hj => old2 (hx j x hj) hq hb⟩
theorem below_drewN {B : Nat} {a w : World} (h : Below B a w) (n : Nat) : Below B a (w.drewN n) := ⟨h.os, h.tape, h.output, h.size, h.block⟩
theorem size_any (names : List (List UInt8)) (P : List Int) (tb : Nat) (w : World) (hT : Tab w tb names P) :
    Calls Try.prog 13 #[.pointer (some ⟨tb, 0, none⟩)] w fun e w' => e = .returned (.int .i64 (P.length : Int)) ∧ w' = w := by
  obtain ⟨nv, pb, pc, h1, h2, h3, h4⟩ := hT
  have c1 : w.cell? ⟨tb, 1, none⟩ = some (.slice (some ⟨pb, 0, none⟩) P.length pc) := (cell_of_row _ tb 1 _ _ _ h1).trans rfl
  clear h1
  go_enter Try.func13, Try.ntmps13
  go_wp2
  go_ret
  exact ⟨rfl, rfl⟩
set_option maxRecDepth 100000 in
set_option maxHeartbeats 1000000 in
theorem at_any (names : List (List UInt8)) (P : List Int) (hv : Vals names P) (tb : Nat) (j : Int) (w : World) (hT : Tab w tb names P) (hl : P.length ≤ 1048576) (hn : names.length ≤ 1000000) :
    Calls Try.prog 15 #[.pointer (some ⟨tb, 0, none⟩), .int .i64 j] w fun e w' => e = .returned (.string (mk (atS names P j))) ∧ Below w.heap.size w w' := by
  obtain ⟨nv, pb, pc, h1, h2, h3, A, c, rfl, hc, hr⟩ := hT
  have hb0 : Below w.heap.size w w := Below.refl _ _
  have c0 : w.cell? ⟨tb, 0, none⟩ = some (.slice A names.length c) := (cell_of_row _ tb 0 _ _ _ h1).trans rfl
  have c1 : w.cell? ⟨tb, 1, none⟩ = some (.slice (some ⟨pb, 0, none⟩) P.length pc) := (cell_of_row _ tb 1 _ _ _ h1).trans rfl
  clear h1
  by_cases d1 : j < 0
  · have hX := Lib.hid (show atS names P j = [] by unfold atS; rw [if_pos d1])
    go_enter Try.func15, Try.ntmps15
    go_wp2
    go_ret
    exact ⟨by rw [hX.out]; rfl, hb0⟩
  · obtain ⟨k, rfl⟩ := Int.eq_ofNat_of_zero_le (show 0 ≤ j by omega)
    by_cases d2 : k < P.length
    · obtain ⟨p, hp⟩ : ∃ p, P[k]? = some p := ⟨_, List.getElem?_eq_getElem d2⟩
      have hS := Lib.hid (show atS names P (k : Int) = nameAt names p by unfold atS; rw [if_neg d1, Int.toNat_natCast, hp])
      have hpc := h3.2 k p hp
      have hpv := hv p (List.mem_of_getElem? hp)
      have d3 : (k : Int) < (P.length : Int) := by omega
      have d4 : ¬ (P.length : Int) ≤ (k : Int) := by omega
      by_cases d5 : p = -1
      · have hX := Lib.hid (show atS names P (k : Int) = [] by rw [hS.out]; unfold nameAt; rw [if_pos d5])
        subst d5
        clear hp h3 hpv
        go_enter Try.func15, Try.ntmps15
        go_wp2
        go_ret
        exact ⟨by rw [hX.out]; rfl, hb0⟩
      · obtain ⟨q, rfl⟩ := Int.eq_ofNat_of_zero_le (show 0 ≤ p by omega)
        have hq : q < names.length := by omega
        obtain ⟨nb, no, rfl, hnb, hnx⟩ := hr (by omega)
        have hnc := hnx q names[q] (List.getElem?_eq_getElem hq)
        have hX := Lib.hid (show atS names P (k : Int) = names[q] by rw [hS.out]; unfold nameAt; rw [if_neg d5, Int.toNat_natCast, List.getD_eq_getElem?_getD, List.getElem?_eq_getElem hq]; rfl)
        generalize names[q] = nm at *
        have z1 : (0 : Int) ≤ (q : Int) := by omega
        have z2 : (q : Int) < (names.length : Int) := by omega
        clear hp h3 hpv hr hnx
        go_enter Try.func15, Try.ntmps15
        go_wp2
        (try go_quiet (fail))
        (try go_wp2)
        go_ret
        exact ⟨by rw [hX.out]; rfl, below_drewN hb0 _⟩
    · have hX := Lib.hid (show atS names P (k : Int) = [] by unfold atS; rw [if_neg d1, Int.toNat_natCast, List.getElem?_eq_none (by omega)])
      have d4 : (P.length : Int) ≤ (k : Int) := by omega
      have d3 : ¬ (k : Int) < (P.length : Int) := by omega
      go_enter Try.func15, Try.ntmps15
      go_wp2
      go_ret
      exact ⟨by rw [hX.out]; rfl, hb0⟩
theorem pick_any (names : List (List UInt8)) (P : List Int) (hv : Vals names P) (tb : Nat) (x : Nat) (hx : x < 18446744073709551616) (w : World) (hT : Tab w tb names P) (hl : P.length ≤ 1048576) (hn : names.length ≤ 1000000) :
    Calls Try.prog 22 #[.pointer (some ⟨tb, 0, none⟩), .int .u64 x] w fun e w' => e = .returned (.string (mk (atS names P (belowN x (P.length : Int))))) ∧ Below w.heap.size w w' := by
  have dB := fun W => below_any x hx (P.length : Int) (by omega) W
  have dA := at_any names P hv tb (belowN x (P.length : Int)) w hT hl hn
  generalize belowN x (P.length : Int) = j at *
  obtain ⟨nv, pb, pc, h1, h2, h3, h4⟩ := hT
  have c1 : w.cell? ⟨tb, 1, none⟩ = some (.slice (some ⟨pb, 0, none⟩) P.length pc) := (cell_of_row _ tb 1 _ _ _ h1).trans rfl
  clear h1
  go_enter Try.func22, Try.ntmps22
  go_wp2_with (first
    | (go_at_call 36; refine (dB _).mono ?_; rintro e w1 ⟨rfl, rfl⟩)
    | (go_at_call 15; refine dA.mono ?_; rintro e w2 ⟨rfl, hb⟩))
  go_ret
  exact ⟨rfl, hb⟩
/-- Strings, in a row of the call's own. -/
def OwnStrs (w : World) (base : Nat) (v : Value) (xs : List (List UInt8)) : Prop := w.ownsRow base 9 1 v xs.length (xs.map (fun x => Value.string (mk x)))
theorem names_any (names : List (List UInt8)) (P : List Int) (tb : Nat) (w : World) (hT : Tab w tb names P) (hn : names.length ≤ 1000000) :
    Calls Try.prog 19 #[.pointer (some ⟨tb, 0, none⟩)] w fun e w' => ∃ v, e = .returned v ∧ OwnStrs w' w.heap.size v names ∧ Below w.heap.size w w' := by
  obtain ⟨nv, pb, pc, h1, h2, h3, A, c, rfl, hc, hr⟩ := hT
  have c0 : w.cell? ⟨tb, 0, none⟩ = some (.slice A names.length c) := (cell_of_row _ tb 0 _ _ _ h1).trans rfl
  clear h1
  have hb0 : Below w.heap.size w w := Below.refl _ _
  have dC : Calls Try.prog 37 #[.slice A names.length c] w fun e w' => ∃ v, e = .returned v ∧ OwnStrs w' w.heap.size v names ∧ Below w.heap.size w w' := by
    by_cases h0 : 0 < names.length
    · obtain ⟨nb, no, rfl, hnb, hnx⟩ := hr h0
      refine (Try.slices_Clone_string nb no names.length c (names.map mk) w (by simp) (by omega) (fun j hj => ?_)).mono ?_
      · rw [List.length_map] at hj
        rw [hnx j names[j] (List.getElem?_eq_getElem hj), List.getD_eq_getElem?_getD, List.getElem?_map, List.getElem?_eq_getElem hj]; rfl
      · rintro e w' ⟨v, rfl, hown, _, hb⟩
        refine ⟨v, rfl, ?_, hb⟩
        rw [List.take_of_length_le (by simp), List.map_map] at hown
        exact hown
    · have hz : names = [] := List.eq_nil_of_length_eq_zero (by omega)
      subst hz
      cases A with
      | none =>
        refine (Try.slices_Clone_string_nil 0 c w).mono ?_
        rintro e w' ⟨rfl, rfl⟩
        exact ⟨_, rfl, World.ownsRow_nil _ _ _ _, hb0⟩
      | some a =>
        refine (Try.slices_Clone_string_zero a c w).mono ?_
        rintro e w' ⟨v, rfl, hown, _, hb⟩
        exact ⟨v, rfl, hown, hb⟩
  go_enter Try.func19, Try.ntmps19
  go_wp2_with (go_at_call 37; refine dC.mono ?_; rintro e w1 ⟨v, rfl, hown, hb⟩)
  go_ret
  exact ⟨v, rfl, hown, hb⟩
/-- How many places each has. -/
def shareS (n : Nat) (P : List Int) : List Int := (List.range n).map (fun i : Nat => ((P.countP (fun p : Int => p == (i : Int)) : Nat) : Int))
theorem share_len (n : Nat) (P : List Int) : (shareS n P).length = n := by unfold shareS; simp
theorem share_get (n : Nat) (P : List Int) (i : Nat) (h : i < n) : (shareS n P)[i]? = some ((P.countP (fun p => p == (i : Int)) : Nat) : Int) := by
  unfold shareS
  rw [List.getElem?_map, List.getElem?_range h]; rfl
theorem share_none (n : Nat) (P : List Int) : shareS n (P ++ [-1]) = shareS n P := by
  unfold shareS
  refine List.map_congr_left (fun i _ => ?_)
  rw [List.countP_append]
  have : ((-1 : Int) == (i : Int)) = false := by rw [beq_eq_false_iff_ne]; omega
  simp [this]
theorem share_one (n : Nat) (P : List Int) (q : Nat) (hq : q < n) : shareS n (P ++ [(q : Int)]) = (shareS n P).set q (((P.countP (fun p => p == (q : Int)) : Nat) : Int) + 1) := by
  apply List.ext_getElem?
  intro i
  rw [List.getElem?_set, share_len]
  by_cases hi : i < n
  · rw [share_get _ _ _ hi, share_get _ _ _ hi, List.countP_append]
    by_cases e : q = i
    · subst e; rw [if_pos rfl, if_pos hq] <;> (try simp)
    · rw [if_neg e]
      have : ((q : Int) == (i : Int)) = false := by simp; omega
      simp [this]
  · rw [List.getElem?_eq_none (by rw [share_len]; omega), if_neg (by omega), List.getElem?_eq_none (by rw [share_len]; omega)]
set_option maxRecDepth 100000 in
set_option maxHeartbeats 1000000 in
theorem shares_any (names : List (List UInt8)) (P : List Int) (hv : Vals names P) (tb : Nat) (w : World) (hT : Tab w tb names P) (hl : P.length ≤ 1048576) (hn : names.length ≤ 1000000) :
    Calls Try.prog 16 #[.pointer (some ⟨tb, 0, none⟩)] w fun e w' => ∃ v, e = .returned v ∧ w'.ownsRow w.heap.size 3 1 v names.length ((shareS names.length P).map (fun x => Value.int .i64 x)) ∧ Below w.heap.size w w' := by
  obtain ⟨i0, hi, hz0, hz1, hz2⟩ := info_parts infoI
  have hl0 := hT.lt
  obtain ⟨nv, pb, pc, h1, h2, h3, A, c, rfl, hc, hr⟩ := hT
  have hb0 : Below w.heap.size w w := Below.refl _ _
  have c0 : w.cell? ⟨tb, 0, none⟩ = some (.slice A names.length c) := (cell_of_row _ tb 0 _ _ _ h1).trans rfl
  have c1 : w.cell? ⟨tb, 1, none⟩ = some (.slice (some ⟨pb, 0, none⟩) P.length pc) := (cell_of_row _ tb 1 _ _ _ h1).trans rfl
  clear h1 hr
  go_enter Try.func16, Try.ntmps16
  go_wp2_with (at_make; refine wpList_make_full _ rfl _ _ 43 rfl w.heap.size 3 i0 _ 1 Try.underlying43 hi hz0 hz1 .i64 .i64 _ _ names.length rfl rfl rfl rfl (by rw [hz2]; omega) (by unfold maxLen; omega) (Nat.le_refl _) ?_; intro w1 hown1 hgrow1; have hb1 := hb0.grown hgrow1 (Nat.le_refl _) (fun k e => by cases e); have c2 : w1.cell? ⟨tb, 1, none⟩ = some (.slice (some ⟨pb, 0, none⟩) P.length pc) := (hb1.cell (p := ⟨tb, 1, none⟩) hl0).trans c1)
  have hst : (madeCells (Value.int .i64 0).cells (names.length * 1)).toList = (shareS names.length (P.take 0)).map (fun x => Value.int .i64 x) := by
    rw [Nat.mul_one, show (Value.int .i64 0).cells = #[Value.int .i64 0] from rfl, toList_madeCells_one]
    unfold shareS
    rw [List.map_map, List.take_zero]
    apply List.ext_getElem?
    intro j
    rw [List.getElem?_replicate, List.getElem?_map]
    by_cases hj : j < names.length
    · rw [if_pos hj, List.getElem?_range hj]; rfl
    · rw [if_neg hj, List.getElem?_eq_none (by simp; omega)]; rfl
  rw [hst] at hown1
  have hP0 := h3.2
  have hpl := h3.1
  generalize hg : w.heap.size = g at *
  clear hst hgrow1 c0 c1 c2 h3
  go_loopw [17] (fun iv wr => ∃ k, k ≤ P.length ∧ iv = .int .i64 k ∧ wr.ownsRow g 3 1 (.slice (some ⟨g, 0, none⟩) names.length names.length) names.length ((shareS names.length (P.take k)).map (fun x => Value.int .i64 x)) ∧ Below g w wr) (fun iv _ => P.length - (intOf iv).toNat)
  case atStart => exact ⟨0, Nat.zero_le _, rfl, hown1, hb1⟩
  case round =>
    obtain ⟨k, hk, rfl, hown, hb⟩ := hrel
    by_cases d1 : k < P.length
    · obtain ⟨p, hp⟩ : ∃ p, P[k]? = some p := ⟨_, List.getElem?_eq_getElem d1⟩
      have hpc := (hb.cell (p := ⟨pb, k, none⟩) hpl).trans (hP0 k p hp)
      have hpv := hv p (List.mem_of_getElem? hp)
      have htk : Hid (P.take (k + 1) = P.take k ++ [p]) := Lib.hid (by rw [List.take_add_one, hp]; rfl)
      by_cases d2 : p = -1
      · have hnx := Lib.hid (show shareS names.length (P.take (k + 1)) = shareS names.length (P.take k) by rw [htk.out, d2, share_none])
        subst d2
        clear hp
        go_wp2
        go_roundw
        case rel => exact ⟨k + 1, by omega, by go_num, by rw [hnx.out]; exact hown, hb⟩
        case measure => simp [intOf]; omega
      · obtain ⟨q, rfl⟩ := Int.eq_ofNat_of_zero_le (show 0 ≤ p by omega)
        have hq : q < names.length := by omega
        have hnx := Lib.hid (share_one names.length (P.take k) q hq)
        have hcell : wr.cell? ⟨g, q, none⟩ = some (.int .i64 (((P.take k).countP (fun p : Int => p == (q : Int)) : Nat) : Int)) := by
          rw [hown.cellAt q (by omega), List.getElem?_map, share_get _ _ _ hq]; rfl
        have hfz := hown.frozenAt q
        have hcnt : (P.take k).countP (fun p : Int => p == (q : Int)) ≤ 1048576 := by
          have h1 := List.countP_le_length (p := fun p : Int => p == (q : Int)) (l := P.take k)
          rw [List.length_take] at h1; omega
        generalize hcn : (P.take k).countP (fun p : Int => p == (q : Int)) = cn at *
        have z1 : (0 : Int) ≤ (q : Int) := by omega
        have z2 : (q : Int) < (names.length : Int) := by omega
        have x1 : IntKind.i64.wrap ((cn : Int) + 1) = (cn : Int) + 1 := IntWalk.i64_in _ (by omega)
        have hst := Lib.hid (hown.stored q (.int .i64 ((cn : Int) + 1)))
        clear hp hcn
        go_wp2
        go_roundw
        case rel => exact ⟨k + 1, by omega, by go_num, by rw [htk.out, hnx.out, List.map_set]; exact hst.out.1, hb.grown hst.out.2 (by have := hb.size; omega) (fun j e => by cases e; exact Nat.le_refl _)⟩
        case measure => simp [intOf]; omega
    · have hkl : P.take k = P := List.take_of_length_le (by omega)
      rw [hkl] at hown
      go_wp2
      go_ret
      refine ⟨_, rfl, ?_, ?_⟩ <;> (try rw [hg])
      · exact hown
      · exact hb
end Go.Proofs.Ytclngmjfhlindaa.Ma
