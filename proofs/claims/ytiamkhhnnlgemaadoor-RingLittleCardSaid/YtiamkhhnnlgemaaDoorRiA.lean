/- Entries, strings and keys in memory (printed by genA.py). -/
import Derived.Test.YtiamkhhnnlgemaaDoorRiO
import Derived.Test.YtiamkhhnnlgemaaDoorSipL
import Derived.WalkKit
import Derived.WalkSpells
import Derived.WalkLawsBesides
import Derived.Lib.Hide
import Derived.OpenShut
import Derived.Deep.QuietTactic
import Derived.BigQuiet
import Derived.RegionTactic
import Derived.ChangeAlike
import Derived.Maps.AppendAt
import Derived.OwnWalk
import Derived.Deep.RegionHeld3
import Derived.Deep.AppendLies
import Derived.Maps.OwnSet
import Derived.StringKeys
import Derived.RangeFuncNested
import Derived.RangeFuncBound
import Derived.RangeFuncCalls
import Derived.RangeFuncLeaves
import Derived.RangeFuncBox
import Derived.Shelf.Abstract
import Derived.Shelf.RegionOpen
import Derived.OwnWalkIn
import Derived.TacticsInMore
import Derived.LoopNIn
import Derived.LoopIn
import Derived.Sort.LotA
import Derived.Shelf.SlSortCmp.NoneTotal
import Derived.Deep.DrawnRows
import Derived.IntWalk
import Derived.Deep.RegionLaw
namespace Go.Proofs.YtiamkhhnnlgemaaDoor.Ri
open Go.RowKit Go.Maps Go.Sort Go.Lib Go.Shelf Go.Proofs.YtiamkhhnnlgemaaDoor.Sip
set_option linter.unusedVariables false
abbrev Ent := List UInt8 × Int
def entV (x : Ent) : List Value := [.string (mk x.1), .int .i64 x.2]
/-- A slice value reads as these entries. -/
def Ents (w : World) (v : Value) (xs : List Ent) : Prop :=
  ∃ A c, v = .slice A xs.length c ∧ xs.length ≤ c ∧ (0 < xs.length → ∃ b o, A = some ⟨b, o, none⟩ ∧ b < w.heap.size ∧ ∀ j x, xs[j]? = some x → w.cell? ⟨b, o + j * 2, none⟩ = some (.string (mk x.1)) ∧ w.cell? ⟨b, o + j * 2 + 1, none⟩ = some (.int .i64 x.2))
theorem Ents.below {w w' : World} {v : Value} {xs : List Ent} (h : Ents w v xs) (hb : Below w.heap.size w w') : Ents w' v xs := by
  obtain ⟨A, c, hv, hc, hr⟩ := h
  refine ⟨A, c, hv, hc, fun hp => ?_⟩
  obtain ⟨b, o, hA, hlt, hx⟩ := hr hp
  exact ⟨b, o, hA, Nat.lt_of_lt_of_le hlt hb.size, fun j x hj => ⟨(hb.cell (p := ⟨b, o + j * 2, none⟩) hlt).trans (hx j x hj).1, (hb.cell (p := ⟨b, o + j * 2 + 1, none⟩) hlt).trans (hx j x hj).2⟩⟩
def few12 (n : Nat) (xs : List Ent) : List Ent := (xs.take n).map (fun x => (110 :: x.1.take 12, x.2))
theorem ext_take (s : ByteArray) (i : Nat) : s.extract 0 i = mk (s.data.toList.take i) := by rw [ba_cut, List.drop_zero]
theorem mk_inj {a b : List UInt8} (h : mk a = mk b) : a = b := by
  have := congrArg (fun s : ByteArray => s.data.toList) h
  exact this
theorem str_eq (a b : ByteArray) : (a.toList == b.toList) = decide (a = b) := by
  rw [Lib.toList_data, Lib.toList_data, Bool.eq_iff_iff, beq_iff_eq, decide_eq_true_iff]
  exact ⟨Go.WideShapes.bytes_inj, fun h => by rw [h]⟩
theorem mk_eq (a b : List UInt8) : ((mk a).toList == (mk b).toList) = decide (a = b) := by
  rw [str_eq]
  by_cases h : a = b
  · rw [h]; simp
  · rw [decide_eq_false h, decide_eq_false (fun e => h (mk_inj e))]
theorem new_two (w : World) (a b : Value) (T : TypeId) : (w.alloc (.cells #[a, b] T)).cell? ⟨w.heap.size, 0, none⟩ = some a ∧ (w.alloc (.cells #[a, b] T)).cell? ⟨w.heap.size, 1, none⟩ = some b :=
  ⟨(cell_of_row _ w.heap.size 0 #[a, b] T (0, 0) (heap_alloc_new w _)).trans rfl, (cell_of_row _ w.heap.size 1 #[a, b] T (0, 0) (heap_alloc_new w _)).trans rfl⟩
theorem grow_low {B : Nat} {a W w' : World} {ob : Option Nat} (h : Below B a W) (hs : B ≤ W.heap.size) (hg : W.grownBy w' ob) (hob : ∀ b, ob = some b → B ≤ b) : Below B a w' :=
  h.grown hg hs hob
theorem cut12 (l : List UInt8) (hl : l.length ≤ 9223372036854775807) (w : World) :
    Calls Tryd.prog 21 #[.string (mk l), .int .i64 12] w fun e w' => e = .returned (.string (mk (l.take 12))) ∧ w' = w := by
  have hz := mk_size l
  go_enter Tryd.func21, Tryd.ntmps21
  by_cases h : 12 < l.length
  · have h1 : (12 : Int) < ((mk l).size : Int) := by omega
    clear hz
    go_wp2
    go_ret
    exact ⟨by rw [show mk (l.take 12) = (mk l).extract 0 12 by rw [ext_take]; rfl]; rfl, rfl⟩
  · have h1 : ¬ (12 : Int) < ((mk l).size : Int) := by omega
    clear hz
    go_wp2
    go_ret
    exact ⟨by rw [List.take_of_length_le (by omega)]; rfl, rfl⟩
theorem infoE : (Tryd.prog.info? 46).map (fun i => (i.zero, i.size, i.bytes)) = some (some (.agg #[.string ⟨#[]⟩, .int .i64 0]), 2, 24) := by kernel_rfl
theorem cat_run (a b : ByteArray) (h : a.size + b.size ≤ 9223372036854775807) (W : World) : (Op.stringOp .add a b).run Tryd.prog W = .ok (.string (a ++ b)) W := by
  unfold Op.stringOp
  simp only
  rw [if_neg (by show ¬ ((a.size + b.size : Nat) : Int) > 9223372036854775807; omega)]
  rfl
set_option maxRecDepth 100000 in
set_option maxHeartbeats 4000000 in
theorem few_any (n : Nat) (hn6 : n ≤ 12) (xs : List Ent) (v : Value) (w : World) (hv : Ents w v xs) (hN : xs.length ≤ 140737488355328) (hT : ∀ x ∈ xs, x.1.length ≤ 9223372036854775807) :
    Calls Tryd.prog 8 #[v, .int .i64 n] w fun e w' => ∃ u, e = .returned u ∧ w'.ownsRow w.heap.size 46 2 u (few12 n xs).length ((few12 n xs).flatMap entV) ∧ Below w.heap.size w w' := by
  obtain ⟨i0, hi, hz0, hz1, hz2⟩ := info_parts infoE
  obtain ⟨A, c, rfl, hc, hr⟩ := hv
  have hb0 : Below w.heap.size w w := Below.refl _ _
  have ho0 : w.ownsRow w.heap.size 46 2 (.slice none 0 0) 0 [] := World.ownsRow_nil _ _ _ _
  go_enter Tryd.func8, Tryd.ntmps8
  go_wp2
  generalize hg : w.heap.size = g at *
  go_loopw [5, 6] (fun u i wr => ∃ (k : Nat) (u0 : Value), u0 = u ∧ k ≤ xs.length ∧ k ≤ n ∧ i = .int .i64 k ∧ wr.ownsRow g 46 2 u k ((few12 k xs).flatMap entV) ∧ Below g w wr) (fun _ i _ => n - (intOf i).toNat)
  case atStart => exact ⟨0, _, rfl, Nat.zero_le _, Nat.zero_le _, rfl, ho0, hb0⟩
  case round =>
    obtain ⟨k, u, rfl, hk, hkn, rfl, hown, hb⟩ := hrel
    by_cases c1 : k < xs.length
    · by_cases c2 : k < n
      · obtain ⟨b, o, rfl, hlt, hx⟩ := hr (by omega)
        have hx0 := hx k xs[k] (by simp [c1])
        have hc0 := (hb.cell (p := ⟨b, o + k * 2, none⟩) (by omega)).trans hx0.1
        have hc1 := (hb.cell (p := ⟨b, o + k * 2 + 1, none⟩) (by omega)).trans hx0.2
        have hxl := hT xs[k] (by simp)
        have hnx := Lib.hid (show (few12 (k + 1) xs).flatMap entV = (few12 k xs).flatMap entV ++ [.string (mk (110 :: xs[k].1.take 12)), .int .i64 xs[k].2] by unfold few12; rw [List.take_succ_eq_append_getElem c1, List.map_append, List.flatMap_append]; rfl)
        have hgw : g ≤ wr.heap.size := by have := hb.size; omega
        have d1 := cut12 xs[k].1 (by omega)
        have hcat : ∀ W : World, (Op.stringOp .add ⟨#[110]⟩ (mk (xs[k].1.take 12))).run Tryd.prog W = .ok (.string (mk (110 :: xs[k].1.take 12))) W := by
          intro W
          rw [cat_run _ _ (by rw [mk_size, List.length_take]; show 1 + _ ≤ _; omega)]
          congr 2
        generalize 110 :: xs[k].1.take 12 = nm at *
        generalize xs[k].1.take 12 = n12 at *
        generalize xs[k] = x at *
        clear hx0 hx
        have hne : u.ownBlock ≠ some b := fun e => by have := (hown.lt b e).1; omega
        go_wp2
        go_region_held3 (fun w' => w'.cell? ⟨b, o + k * 2, none⟩ = some (.string (mk x.1)) ∧ w'.cell? ⟨b, o + k * 2 + 1, none⟩ = some (.int .i64 x.2))
          (first
            | go_keep
            | (go_split_ands
               refine ⟨?_, ?_⟩
               · (rw [hgrow.cell_far _ (by simp; omega) (Ne.symm hne)]; assumption)
               · (rw [hgrow.cell_far _ (by simp; omega) (Ne.symm hne)]; assumption)))
          (first
            | (go_at_call 21; refine (d1 _).mono ?_; rintro e w1' ⟨rfl, rfl⟩)
            | (refine step_append_lies _ (by rfl) _ _ _ (by rfl) g 46 i0 _ 2 24 Tryd.underlying22 hi hz0 hz1 hz2 rfl (by omega) u k _ (by rfl) ((hown.alloc _).drew)
                ⟨wr.heap.size, 0, none⟩ 1 1 [.string (mk nm), .int .i64 x.2] (by rfl) (by rfl) (World.news_of_block (cs := #[.string (mk nm), .int .i64 x.2]) (t := 46) (fr := (0, 0)) (heap_alloc_new wr _)) (by simp [Value.oneCell'])
                (by omega) (by unfold maxLen; omega) (by omega) (by simp; omega) (wr.heap.size + 1) (by simp) ?_; intro gg cap w1 hown1 hgrow hat hlt1))
        go_wp2
        go_roundw
        case rel =>
          refine ⟨k + 1, _, rfl, by omega, by omega, by go_num, by rw [hnx.out]; exact hown1, ?_⟩
          exact grow_low ((hb.alloc hgw _).drew) (by simp; omega) hgrow (fun b e => (hown.lt b e).1)
        case measure => simp [intOf]; omega
      · have hk : k = n := by omega
        subst hk
        go_wp2
        go_ret
        refine ⟨u, rfl, ?_, ?_⟩ <;> (try rw [hg])
        · rw [show (few12 k xs).length = k by unfold few12; simp; omega]; exact hown
        · exact hb
    · have hk : k = xs.length := by omega
      have hnx := Lib.hid (show few12 k xs = few12 n xs by unfold few12; rw [List.take_of_length_le (by omega), List.take_of_length_le (by omega)])
      subst hk
      go_wp2
      go_ret
      refine ⟨u, rfl, ?_, ?_⟩ <;> (try rw [hg])
      · rw [← hnx.out, show (few12 xs.length xs).length = xs.length by unfold few12; simp]; exact hown
      · exact hb
theorem infoM : (Tryd.prog.info? 58).map (fun i => (i.zero, i.size, i.bytes)) = some (some (.agg #[.string ⟨#[]⟩, .int .i64 0]), 2, 24) := by kernel_rfl
set_option maxRecDepth 100000 in
set_option maxHeartbeats 4000000 in
theorem own_any (xs : List Ent) (v : Value) (w : World) (hv : Ents w v xs) (hN : xs.length ≤ 1000000000000) :
    Calls Tryd.prog 11 #[v] w fun e w' => ∃ u, e = .returned u ∧ w'.ownsRow w.heap.size 58 2 u xs.length (xs.flatMap entV) ∧ Below w.heap.size w w' := by
  obtain ⟨i0, hi, hz0, hz1, hz2⟩ := info_parts infoM
  obtain ⟨A, c, rfl, hc, hr⟩ := hv
  have hb0 : Below w.heap.size w w := Below.refl _ _
  have ho0 : w.ownsRow w.heap.size 58 2 (.slice none 0 0) 0 [] := World.ownsRow_nil _ _ _ _
  go_enter Tryd.func11, Tryd.ntmps11
  go_wp2
  generalize hg : w.heap.size = g at *
  go_loopw [3, 8] (fun u i wr => ∃ (k : Nat) (u0 : Value), u0 = u ∧ k ≤ xs.length ∧ i = .int .i64 k ∧ wr.ownsRow g 58 2 u k ((xs.take k).flatMap entV) ∧ Below g w wr) (fun _ i _ => xs.length - (intOf i).toNat)
  case atStart => exact ⟨0, _, rfl, Nat.zero_le _, rfl, ho0, hb0⟩
  case round =>
    obtain ⟨k, u, rfl, hk, rfl, hown, hb⟩ := hrel
    by_cases c1 : k < xs.length
    · obtain ⟨b, o, rfl, hlt, hx⟩ := hr (by omega)
      have hx0 := hx k xs[k] (by simp [c1])
      have hc0 := (hb.cell (p := ⟨b, o + k * 2, none⟩) (by omega)).trans hx0.1
      have hc1 := (hb.cell (p := ⟨b, o + k * 2 + 1, none⟩) (by omega)).trans hx0.2
      have hnx := Lib.hid (show (xs.take (k + 1)).flatMap entV = (xs.take k).flatMap entV ++ [.string (mk xs[k].1), .int .i64 xs[k].2] by rw [List.take_succ_eq_append_getElem c1, List.flatMap_append]; rfl)
      have hgw : g ≤ wr.heap.size := by have := hb.size; omega
      generalize xs[k] = x at *
      clear hx0 hx
      have hbk := heap_alloc_new (wr.alloc (Obj.cells #[.string (mk x.1), .int .i64 x.2] 46)) (Obj.cells #[.string (mk x.1), .int .i64 x.2] 58)
      rw [World.size_alloc] at hbk
      go_wp2_with (at_builtin; refine wpList_append_own _ rfl _ _ 32 rfl g 58 i0 _ 2 24 Tryd.underlying32 hi hz0 hz1 hz2 rfl (by decide) _ _ _ rfl ((hown.alloc _).alloc _) ⟨_, 0, none⟩ 1 1 [.string (mk x.1), .int .i64 x.2] rfl rfl (World.news_of_block hbk) (by simp [Value.oneCell']) (by unfold maxLen; omega) (by omega) (by simp; omega) ?_; intro v' w1 hown' hgrow _)
      go_roundw
      case rel => exact ⟨k + 1, _, rfl, by omega, by go_num, by rw [hnx.out]; exact hown', grow_low ((hb.alloc hgw _).alloc (by simp; omega) _) (by simp; omega) hgrow (fun b e => (hown.lt b e).1)⟩
      case measure => simp [intOf]; omega
    · have hk : k = xs.length := by omega
      subst hk
      go_wp2
      go_ret
      refine ⟨u, rfl, ?_, ?_⟩ <;> (try rw [hg])
      · rw [List.take_of_length_le (by omega)] at hown; exact hown
      · exact hb
def Good (xs : List Ent) : Prop := (∀ x ∈ xs, 1 ≤ x.2 ∧ x.2 ≤ 65535) ∧ (xs.map Prod.fst).Nodup
theorem good_nil : Good [] := ⟨by simp, by simp⟩
theorem good_succ {xs : List Ent} {k : Nat} (hk : k < xs.length) : Good (xs.take (k + 1)) ↔ Good (xs.take k) ∧ (1 ≤ xs[k].2 ∧ xs[k].2 ≤ 65535) ∧ xs[k].1 ∉ (xs.take k).map Prod.fst := by
  rw [List.take_succ_eq_append_getElem hk]
  unfold Good
  rw [List.map_append, List.nodup_append]
  constructor
  · rintro ⟨h1, h2, h3, h4⟩
    refine ⟨⟨fun x hx => h1 x (List.mem_append_left _ hx), h2⟩, h1 _ (List.mem_append_right _ (List.mem_singleton.2 rfl)), fun hm => h4 _ hm xs[k].1 (by simp) rfl⟩
  · rintro ⟨⟨h1, h2⟩, h3, h4⟩
    refine ⟨fun x hx => ?_, h2, by simp, fun a ha b hb => ?_⟩
    · rcases List.mem_append.1 hx with h | h
      · exact h1 x h
      · rw [List.mem_singleton.1 h]; exact h3
    · simp only [List.map_cons, List.map_nil, List.mem_singleton] at hb
      rintro rfl
      rw [hb] at ha
      exact h4 ha
theorem Good.take {xs : List Ent} (h : Good xs) (k : Nat) : Good (xs.take k) :=
  ⟨fun x hx => h.1 x (List.mem_of_mem_take hx), by rw [List.map_take]; exact h.2.sublist (List.take_sublist _ _)⟩
def seenOf (xs : List Ent) : DataW Unit := setOf (.agg []) (xs.map (fun x => Lit.string x.1))
theorem seen_nil : seenOf [] = .map [] := rfl
theorem seen_snoc (xs : List Ent) (x : Ent) : seenOf (xs ++ [x]) = (seenOf xs).put (Lit.string x.1) (.agg []) := by
  unfold seenOf; rw [List.map_append]; exact setOf_snoc _ _ _
theorem seen_has (xs : List Ent) (l : List UInt8) : Maps.has (seenOf xs) (Lit.string l) = decide (l ∈ xs.map Prod.fst) := by
  unfold seenOf
  rw [has_setOf _ _ _ (fun y hy => by obtain ⟨_, _, rfl⟩ := List.mem_map.1 hy; trivial), List.any_map]
  rw [Bool.eq_iff_iff, List.any_eq_true, decide_eq_true_iff, List.mem_map]
  constructor
  · rintro ⟨x, hx, h⟩
    refine ⟨x, hx, ?_⟩
    simpa [Function.comp, Lit.sameKey] using h
  · rintro ⟨x, hx, rfl⟩
    refine ⟨x, hx, ?_⟩
    simp [Function.comp, Lit.sameKey]
theorem zeroU (w : World) : (zeroValue 77).run Tryd.prog w = .ok (.agg #[]) w := by kernel_rfl
theorem bytesLess_lt : ∀ (x y : List UInt8), Op.bytesLess x y = decide (x < y)
  | [], [] => by simp [Op.bytesLess]
  | _ :: _, [] => by simp [Op.bytesLess]
  | [], _ :: _ => by simp [Op.bytesLess]
  | a :: x, b :: y => by
    rw [Op.bytesLess, bytesLess_lt x y]
    simp only [List.cons_lt_cons_iff]
    by_cases h1 : a < b <;> by_cases h2 : a = b <;> by_cases h3 : x < y <;> simp [h1, h2, h3]
theorem mk_lt (a b : List UInt8) : Op.bytesLess (mk a).toList (mk b).toList = decide (a < b) := by
  rw [bytesLess_lt, Lib.toList_data, Lib.toList_data]; rfl
/-- What the closure says of two entries. -/
def cmpN (a b : List UInt8) : Int := if a < b then -1 else if b < a then 1 else 0
theorem isNaN_any (a : ByteArray) (w : World) : Calls Tryd.prog 60 #[.string a] w fun e w' => e = .returned (.bool false) ∧ w' = w := by
  go_enter Tryd.func60, Tryd.ntmps60
  go_wp2
  go_ret
  exact ⟨by simp, rfl⟩
set_option maxRecDepth 100000 in
theorem compare_any (a b : List UInt8) (w : World) : Calls Tryd.prog 39 #[.string (mk a), .string (mk b)] w fun e w' => e = .returned (.int .i64 (cmpN a b)) ∧ w' = w := by
  have h1 := mk_lt a b
  have h2 := mk_eq a b
  by_cases c1 : a < b
  · have hX := Lib.hid (show cmpN a b = -1 by unfold cmpN; rw [if_pos c1])
    rw [decide_eq_true c1] at h1
    clear c1
    go_enter Tryd.func39, Tryd.ntmps39
    go_wp2_with (go_at_call 60; refine (isNaN_any _ _).mono ?_; rintro e w1 ⟨rfl, hw⟩; rw [hw]; clear hw w1)
    go_ret
    exact ⟨by rw [hX.out]; rfl, rfl⟩
  · rw [decide_eq_false c1] at h1
    by_cases c2 : a = b
    · subst c2
      have hX := Lib.hid (show cmpN a a = 0 by unfold cmpN; rw [if_neg c1, if_neg c1])
      rw [decide_eq_true rfl] at h2
      clear c1
      go_enter Tryd.func39, Tryd.ntmps39
      go_wp2_with (go_at_call 60; refine (isNaN_any _ _).mono ?_; rintro e w1 ⟨rfl, hw⟩; rw [hw]; clear hw w1)
      go_ret
      exact ⟨by rw [hX.out]; rfl, rfl⟩
    · rw [decide_eq_false c2] at h2
      have hX := Lib.hid (show cmpN a b = 1 by
        unfold cmpN
        rw [if_neg c1, if_pos]
        rcases Classical.em (b < a) with h | h
        · exact h
        · exact absurd (List.le_antisymm (List.not_lt.1 h) (List.not_lt.1 c1)) c2)
      clear c1 c2
      go_enter Tryd.func39, Tryd.ntmps39
      go_wp2_with (go_at_call 60; refine (isNaN_any _ _).mono ?_; rintro e w1 ⟨rfl, hw⟩; rw [hw]; clear hw w1)
      go_ret
      exact ⟨by rw [hX.out]; rfl, rfl⟩
theorem flat_get : ∀ (xs : List Ent) (i : Nat) (h : i < xs.length), (xs.flatMap entV)[i * 2]? = some (.string (mk xs[i].1)) ∧ (xs.flatMap entV)[i * 2 + 1]? = some (.int .i64 xs[i].2)
  | [], i, h => by simp at h
  | x :: xs, 0, h => ⟨rfl, rfl⟩
  | x :: xs, i + 1, h => by
    have := flat_get xs i (by simpa using h)
    rw [show (i + 1) * 2 = i * 2 + 2 by omega]
    exact this
def keyV (K : List UInt8) : List Value := K.map u8V
theorem bytesRange {w : World} {B : Nat} {l : List UInt8} {T : TypeId} (h : BytesAt w B l T) : w.rangeAt B 0 (keyV l) := by
  intro j v hv
  rw [Nat.zero_add]
  unfold keyV at hv
  rw [List.getElem?_map] at hv
  cases hj : l[j]? with
  | none => rw [hj] at hv; cases hv
  | some x =>
    rw [hj] at hv
    obtain ⟨hl, rfl⟩ := List.getElem?_eq_some_iff.1 hj
    cases hv
    exact h.cell j hl
/-- Everything below n0 reads as in W0. -/
def Kps (n0 : Nat) (W0 w : World) : Prop := Below n0 W0 w ∧ n0 ≤ w.heap.size
theorem Kps.alloc {n0 : Nat} {W0 w : World} (h : Kps n0 W0 w) (o : Obj) : Kps n0 W0 (w.alloc o) := ⟨h.1.alloc h.2 o, by have := h.2; simp; omega⟩
theorem Kps.call {n0 : Nat} {W0 w w' : World} (h : Kps n0 W0 w) (hb : Below w.heap.size w w') : Kps n0 W0 w' := ⟨h.1.trans (hb.mono h.2), Nat.le_trans h.2 hb.size⟩
theorem Kps.cell {n0 : Nat} {W0 w : World} (h : Kps n0 W0 w) {b o : Nat} {v : Value} (hb : b < n0) (hc : W0.cell? ⟨b, o, none⟩ = some v) : w.cell? ⟨b, o, none⟩ = some v := (h.1.cell (p := ⟨b, o, none⟩) hb).trans hc
theorem Kps.range {n0 : Nat} {W0 w : World} (h : Kps n0 W0 w) {b o : Nat} {cs : List Value} (hb : b < n0) (hc : W0.rangeAt b o cs) : w.rangeAt b o cs := fun j v hj => h.cell hb (hc j v hj)
theorem old2 {w w' : World} {b o : Nat} {v : Value} (h : w.cell? ⟨b, o, none⟩ = some v) (hb : b < w.heap.size) (hB : Below w.heap.size w w') : w'.cell? ⟨b, o, none⟩ = some v := (hB.cell (p := ⟨b, o, none⟩) hb).trans h
theorem oldA {w : World} {b o : Nat} {v : Value} (h : w.cell? ⟨b, o, none⟩ = some v) (hb : b < w.heap.size) (ob : Obj) : (w.alloc ob).cell? ⟨b, o, none⟩ = some v := (((Below.refl w.heap.size w).alloc (Nat.le_refl _) ob).cell (p := ⟨b, o, none⟩) hb).trans h
theorem row_strs {w : World} {base : Nat} {nv : Value} {names : List (List UInt8)} (h : w.ownsRow base 9 1 nv names.length (names.map (fun x => Value.string (mk x)))) : Strs w nv names := by
  have h' := h
  rcases h.2 with ⟨rfl, h0⟩ | ⟨g, cap, cur, rfl, hb, hg, h1, h2, h3, h4⟩
  · exact ⟨none, 0, by rw [h0], by omega, fun hp => by omega⟩
  · refine ⟨_, cap, rfl, h1, fun _ => ⟨g, 0, rfl, (Array.getElem?_eq_some_iff.1 hg).1, fun j x hj => ?_⟩⟩
    have hj2 : j < names.length := (List.getElem?_eq_some_iff.1 hj).1
    rw [Nat.zero_add, h'.cellAt j (by omega), List.getElem?_map, hj]; rfl
theorem below_drewN {B : Nat} {a w : World} (h : Below B a w) (n : Nat) : Below B a (w.drewN n) := ⟨h.os, h.tape, h.output, h.size, h.block⟩
/-- Strings, in a row of the call's own. -/
def OwnStrs (w : World) (base : Nat) (v : Value) (xs : List (List UInt8)) : Prop := w.ownsRow base 9 1 v xs.length (xs.map (fun x => Value.string (mk x)))
def nm (names : List (List UInt8)) (q : Nat) : List UInt8 := names.getD q []
theorem ret_bool {b c : Bool} (h : b = c) : Ending.returned (.bool b) = Ending.returned (.bool c) := by rw [h]
theorem same_any (xs ys : List (List UInt8)) (va vb : Value) (w : World) (ha : Strs w va xs) (hb : Strs w vb ys) (hN : xs.length ≤ 140737488355328) :
    Calls Tryd.prog 18 #[va, vb] w fun e w' => e = .returned (.bool (decide (xs = ys))) ∧ Below w.heap.size w w' := by
  go_enter Tryd.func18, Tryd.ntmps18
  obtain ⟨A, ca, rfl, hca, hra⟩ := ha
  obtain ⟨B, cb, rfl, hcb, hrb⟩ := hb
  by_cases hl : xs.length = ys.length
  · by_cases hp : 0 < xs.length
    · obtain ⟨ba, oa, rfl, hla, hxa⟩ := hra hp
      obtain ⟨bb, ob, rfl, hlb, hxb⟩ := hrb (by omega)
      go_wp2_with fail
      go_loopw [13] (fun i wr => ∃ k : Nat, k ≤ xs.length ∧ i = .int .i64 k ∧ Hid (xs.take k = ys.take k) ∧ Below w.heap.size w wr) (fun i _ => xs.length - (intOf i).toNat)
      case atStart => exact ⟨0, Nat.zero_le _, rfl, Lib.hid rfl, Below.refl _ _⟩
      case round =>
        obtain ⟨k, hk, rfl, hall, hbw⟩ := hrel
        by_cases hlt : k < xs.length
        · have hlt2 : k < ys.length := by omega
          have hx := (hbw.cell (p := ⟨ba, oa + k, none⟩) hla).trans (hxa k xs[k] (by simp [hlt]))
          have hy := (hbw.cell (p := ⟨bb, ob + k, none⟩) hlb).trans (hxb k (ys[k]'(by omega)) (by simp))
          by_cases hxy : xs[k] = ys[k]'(by omega)
          · have htest : (!(mk xs[k]).toList == (mk (ys[k]'(by omega))).toList) = false := by rw [mk_eq, decide_eq_true hxy]; rfl
            have hnx := Lib.hid (show xs.take (k + 1) = ys.take (k + 1) by rw [List.take_succ_eq_append_getElem hlt, List.take_succ_eq_append_getElem hlt2, hall.out, hxy])
            clear hxy
            go_wp2_with fail
            go_quiet (fail)
            go_wp2_with fail
            go_roundw
            case rel => exact ⟨k + 1, by omega, by go_num, hnx, below_drewN hbw _⟩
            case measure => simp [intOf]; omega
          · have htest : (!(mk xs[k]).toList == (mk (ys[k]'(by omega))).toList) = true := by rw [mk_eq, decide_eq_false hxy]; rfl
            have hne := Lib.hid hxy
            clear hxy
            go_wp2_with fail
            go_quiet (fail)
            go_wp2_with fail
            go_ret
            exact ⟨ret_bool (by rw [decide_eq_false]; intro h; subst h; exact hne.out rfl), below_drewN hbw _⟩
        · go_wp2_with fail
          go_ret
          exact ⟨ret_bool (by rw [decide_eq_true]; have h := hall.out; rwa [List.take_of_length_le (by omega), List.take_of_length_le (by omega)] at h), hbw⟩
    · have hx : xs = [] := List.length_eq_zero_iff.1 (by omega)
      subst hx
      have hy : ys = [] := List.length_eq_zero_iff.1 hl.symm
      subst hy
      go_wp2_with fail
      go_loopw [13] (fun i wr => i = .int .i64 0 ∧ wr = w) (fun _ _ => 0)
      case atStart => exact ⟨rfl, rfl⟩
      case round =>
        obtain ⟨rfl, rfl⟩ := hrel
        go_wp2_with fail
        go_ret
        exact ⟨rfl, Below.refl _ _⟩
  · have hl' : ((xs.length : Int) == (ys.length : Int)) = false := by simp; omega
    have hl2 : ((xs.length : Int) != (ys.length : Int)) = true := by simp; omega
    go_wp2_with fail
    go_ret
    exact ⟨ret_bool (by rw [decide_eq_false]; intro h; exact hl (by rw [h])), Below.refl _ _⟩
/-- One after the other. -/
theorem bt {a b c : World} (h : Below a.heap.size a b) (k : Below b.heap.size b c) : Below a.heap.size a c := h.trans (k.mono h.size)
theorem str_tests (x : List UInt8) : ((mk x).toList == (⟨#[97]⟩ : ByteArray).toList) = decide (x = [97]) := mk_eq x [97]
theorem str_none (x : List UInt8) : ((mk x).toList == (⟨#[]⟩ : ByteArray).toList) = decide (x = []) := mk_eq x []
theorem row_ents {w : World} {base : Nat} {e : TypeId} {v : Value} {xs : List Ent} (h : w.ownsRow base e 2 v xs.length (xs.flatMap entV)) : Ents w v xs := by
  have h' := h
  rcases h.2 with ⟨rfl, h0⟩ | ⟨g, cap, cur, rfl, hb, hg, h1, h2, h3, h4⟩
  · exact ⟨none, 0, by rw [h0], by omega, fun hp => by omega⟩
  · refine ⟨_, cap, rfl, h1, fun _ => ⟨g, 0, rfl, (Array.getElem?_eq_some_iff.1 hg).1, fun j x hj => ?_⟩⟩
    have hj2 : j < xs.length := (List.getElem?_eq_some_iff.1 hj).1
    have hx : xs[j] = x := (List.getElem?_eq_some_iff.1 hj).2
    obtain ⟨f1, f2⟩ := flat_get xs j hj2
    rw [hx] at f1 f2
    exact ⟨by rw [Nat.zero_add, h'.cellAt (j * 2) (by omega)]; exact f1, by rw [Nat.zero_add, h'.cellAt (j * 2 + 1) (by omega)]; exact f2⟩
theorem few_mem {n : Nat} {xs : List Ent} {x : Ent} (h : x ∈ few12 n xs) : x.1.length ≤ 13 := by
  unfold few12 at h
  obtain ⟨y, _, rfl⟩ := List.mem_map.1 h
  show (110 :: y.1.take 12).length ≤ 13
  rw [List.length_cons, List.length_take]; omega
theorem few_len (n : Nat) (xs : List Ent) : (few12 n xs).length ≤ n := by unfold few12; simp; omega
theorem row_slice {w : World} {base size n : Nat} {e : TypeId} {v : Value} {xs : List Value} (h : w.ownsRow base e size v n xs) : ∃ A c, v = .slice A n c := by
  rcases h.2 with ⟨rfl, h0⟩ | ⟨g, cap, cur, rfl, _⟩
  · exact ⟨none, 0, by rw [h0]⟩
  · exact ⟨_, _, rfl⟩
theorem own_strs {w : World} {base : Nat} {v : Value} {xs : List (List UInt8)} (h : OwnStrs w base v xs) : Strs w v xs := row_strs h
theorem strs_below {w w' : World} {v : Value} {xs : List (List UInt8)} (h : Strs w v xs) (hb : Below w.heap.size w w') : Strs w' v xs := by
  obtain ⟨A, c, rfl, hc, hr⟩ := h
  refine ⟨A, c, rfl, hc, fun hp => ?_⟩
  obtain ⟨q, o, rfl, hq, hx⟩ := hr hp
  exact ⟨q, o, rfl, Nat.lt_of_lt_of_le hq hb.size, fun j x hj => old2 (hx j x hj) hq hb⟩
theorem rev_take (F : List Ent) (k : Nat) (hk : k < F.length) : F.reverse.take (k + 1) = F.reverse.take k ++ [F[F.length - 1 - k]'(by omega)] := by
  rw [List.take_succ_eq_append_getElem (by simpa using hk), List.getElem_reverse]
theorem step_append_own {P : Program} {w : World} {ops : Array Oper} {o : Oper} {a : Act} {K : Act → World → Prop} {Q : Exit → Act → World → Prop} {E : Prop} (hgd : o.guard = none) (s x : Operand) (t : TypeId)
    (ho : o.op = .call { callee := .builtin .append, args := #[s, x], argTypes := #[t, t] })
    (base : Nat) (e : TypeId) (i : TypeInfo) (z : Value) (size bytes : Nat) (ht : P.underlying t = some (.slice e)) (hi : P.info? e = some i) (hz : i.zero = some z)
    (hsize : i.size = size) (hby : i.bytes = bytes) (hzs : z.cells.size = size) (hsz : 0 < size)
    (v : Value) (n : Nat) (xs : List Value) (hs : a.eval s = v) (hown : w.ownsRow base e size v n xs)
    (ad : Addr) (m c : Nat) (news : List Value) (hx : a.eval x = .slice (some ad) m c) (hl : news.length = m * size) (hnews : ∀ j u, news[j]? = some u → w.cell? (ad.add j) = some u) (h1 : ∀ u ∈ news, u.oneCell' = true)
    (h63 : n + m ≤ maxLen) (hbytes : (n + m) * bytes ≤ 140737488355328) (hbase : base ≤ w.heap.size)
    (h : ∀ v' w', w'.ownsRow base e size v' (n + m) (xs ++ news) → w.grownBy w' v.ownBlock → K (a.put o.dst v') w') :
    if Region.wanted o (yielded ops a.tmps) = true then Oper.wp P o a w K Q else E := by
  have hw : Region.wanted o (yielded ops a.tmps) = true := by simp [Region.wanted, hgd]
  rw [if_pos hw]
  exact wp_append_own w s x t ho base e i z size bytes ht hi hz hsize hby hzs hsz v n xs hs hown ad m c news hx hl hnews h1 h63 hbytes hbase (fun v' w' h2 h3 _ => h v' w' h2 h3)
theorem ownsRow_prefix {w : World} {base g cap n k size : Nat} {e : TypeId} {xs : List Value} (h : w.ownsRow base e size (.slice (some ⟨g, 0, none⟩) n cap) n xs) (hk : k ≤ n) : w.ownsRow base e size (.slice (some ⟨g, 0, none⟩) k cap) k (xs.take (k * size)) := by
  obtain ⟨h1, h2⟩ := h
  have hks : k * size ≤ n * size := Nat.mul_le_mul_right size hk
  rcases h2 with ⟨h0, _⟩ | ⟨g', cap', cur, hv, hb, hg, h3, h4, h5, h6⟩
  · cases h0
  · cases hv
    refine ⟨by rw [List.length_take, h1]; omega, .inr ⟨g, cap, cur, rfl, hb, hg, by omega, h4, h5, ?_⟩⟩
    rw [← h6, List.take_take, Nat.min_eq_left hks]
end Go.Proofs.YtiamkhhnnlgemaaDoor.Ri
