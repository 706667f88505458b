/- Entries in memory; the first few, cut. -/
import Derived.Test.YtclngmjfhlindaaMaA
import Derived.Test.YtclngmjfhlindaaSipL
import Derived.Maps.AppendAt
import Derived.OwnWalk
import Derived.Deep.RegionHeld3
import Derived.Deep.AppendLies
namespace Go.Proofs.Ytclngmjfhlindaa.Ma
open Go.RowKit Go.Proofs.Ytclngmjfhlindaa.Sip
set_option linter.unusedVariables false
abbrev Ent := List UInt8 × Int
def entV (x : Ent) : List Value := [.string (mk x.1), .int .i64 x.2]
/-- A slice value reads as these entries. -/
def Ents (w : World) (v : Value) (xs : List Ent) : Prop :=
  ∃ A c, v = .slice A xs.length c ∧ xs.length ≤ c ∧ (0 < xs.length → ∃ b o, A = some ⟨b, o, none⟩ ∧ b < w.heap.size ∧ ∀ j x, xs[j]? = some x → w.cell? ⟨b, o + j * 2, none⟩ = some (.string (mk x.1)) ∧ w.cell? ⟨b, o + j * 2 + 1, none⟩ = some (.int .i64 x.2))
theorem Ents.below {w w' : World} {v : Value} {xs : List Ent} (h : Ents w v xs) (hb : Below w.heap.size w w') : Ents w' v xs := by
  obtain ⟨A, c, hv, hc, hr⟩ := h
  refine ⟨A, c, hv, hc, fun hp => ?_⟩
  obtain ⟨b, o, hA, hlt, hx⟩ := hr hp
  exact ⟨b, o, hA, Nat.lt_of_lt_of_le hlt hb.size, fun j x hj => ⟨(hb.cell (p := ⟨b, o + j * 2, none⟩) hlt).trans (hx j x hj).1, (hb.cell (p := ⟨b, o + j * 2 + 1, none⟩) hlt).trans (hx j x hj).2⟩⟩
def few12 (n : Nat) (xs : List Ent) : List Ent := (xs.take n).map (fun x => (110 :: x.1.take 12, x.2))
theorem ext_take (s : ByteArray) (i : Nat) : s.extract 0 i = mk (s.data.toList.take i) := by rw [ba_cut, List.drop_zero]
theorem mk_inj {a b : List UInt8} (h : mk a = mk b) : a = b := by
  have := congrArg (fun s : ByteArray => s.data.toList) h
  exact this
theorem str_eq (a b : ByteArray) : (a.toList == b.toList) = decide (a = b) := by
  rw [Lib.toList_data, Lib.toList_data, Bool.eq_iff_iff, beq_iff_eq, decide_eq_true_iff]
  exact ⟨Go.WideShapes.bytes_inj, fun h => by rw [h]⟩
theorem mk_eq (a b : List UInt8) : ((mk a).toList == (mk b).toList) = decide (a = b) := by
  rw [str_eq]
  by_cases h : a = b
  · rw [h]; simp
  · rw [decide_eq_false h, decide_eq_false (fun e => h (mk_inj e))]
theorem new_two (w : World) (a b : Value) (T : TypeId) : (w.alloc (.cells #[a, b] T)).cell? ⟨w.heap.size, 0, none⟩ = some a ∧ (w.alloc (.cells #[a, b] T)).cell? ⟨w.heap.size, 1, none⟩ = some b :=
  ⟨(cell_of_row _ w.heap.size 0 #[a, b] T (0, 0) (heap_alloc_new w _)).trans rfl, (cell_of_row _ w.heap.size 1 #[a, b] T (0, 0) (heap_alloc_new w _)).trans rfl⟩
theorem grow_low {B : Nat} {a W w' : World} {ob : Option Nat} (h : Below B a W) (hs : B ≤ W.heap.size) (hg : W.grownBy w' ob) (hob : ∀ b, ob = some b → B ≤ b) : Below B a w' :=
  h.grown hg hs hob
theorem cut12 (l : List UInt8) (hl : l.length ≤ 9223372036854775807) (w : World) :
    Calls Try.prog 24 #[.string (mk l), .int .i64 12] w fun e w' => e = .returned (.string (mk (l.take 12))) ∧ w' = w := by
  have hz := mk_size l
  go_enter Try.func24, Try.ntmps24
  by_cases h : 12 < l.length
  · have h1 : (12 : Int) < ((mk l).size : Int) := by omega
    clear hz
    go_wp2
    go_ret
    exact ⟨by rw [show mk (l.take 12) = (mk l).extract 0 12 by rw [ext_take]; rfl]; rfl, rfl⟩
  · have h1 : ¬ (12 : Int) < ((mk l).size : Int) := by omega
    clear hz
    go_wp2
    go_ret
    exact ⟨by rw [List.take_of_length_le (by omega)]; rfl, rfl⟩
theorem infoE : (Try.prog.info? 42).map (fun i => (i.zero, i.size, i.bytes)) = some (some (.agg #[.string ⟨#[]⟩, .int .i64 0]), 2, 24) := by kernel_rfl
theorem cat_run (a b : ByteArray) (h : a.size + b.size ≤ 9223372036854775807) (W : World) : (Op.stringOp .add a b).run Try.prog W = .ok (.string (a ++ b)) W := by
  unfold Op.stringOp
  simp only
  rw [if_neg (by show ¬ ((a.size + b.size : Nat) : Int) > 9223372036854775807; omega)]
  rfl
set_option maxRecDepth 100000 in
set_option maxHeartbeats 4000000 in
theorem few_any (n : Nat) (hn6 : n ≤ 12) (xs : List Ent) (v : Value) (w : World) (hv : Ents w v xs) (hN : xs.length ≤ 140737488355328) (hT : ∀ x ∈ xs, x.1.length ≤ 9223372036854775807) :
    Calls Try.prog 8 #[v, .int .i64 n] w fun e w' => ∃ u, e = .returned u ∧ w'.ownsRow w.heap.size 42 2 u (few12 n xs).length ((few12 n xs).flatMap entV) ∧ Below w.heap.size w w' := by
  obtain ⟨i0, hi, hz0, hz1, hz2⟩ := info_parts infoE
  obtain ⟨A, c, rfl, hc, hr⟩ := hv
  have hb0 : Below w.heap.size w w := Below.refl _ _
  have ho0 : w.ownsRow w.heap.size 42 2 (.slice none 0 0) 0 [] := World.ownsRow_nil _ _ _ _
  go_enter Try.func8, Try.ntmps8
  go_wp2
  generalize hg : w.heap.size = g at *
  go_loopw [5, 6] (fun u i wr => ∃ (k : Nat) (u0 : Value), u0 = u ∧ k ≤ xs.length ∧ k ≤ n ∧ i = .int .i64 k ∧ wr.ownsRow g 42 2 u k ((few12 k xs).flatMap entV) ∧ Below g w wr) (fun _ i _ => n - (intOf i).toNat)
  case atStart => exact ⟨0, _, rfl, Nat.zero_le _, Nat.zero_le _, rfl, ho0, hb0⟩
  case round =>
    obtain ⟨k, u, rfl, hk, hkn, rfl, hown, hb⟩ := hrel
    by_cases c1 : k < xs.length
    · by_cases c2 : k < n
      · obtain ⟨b, o, rfl, hlt, hx⟩ := hr (by omega)
        have hx0 := hx k xs[k] (by simp [c1])
        have hc0 := (hb.cell (p := ⟨b, o + k * 2, none⟩) (by omega)).trans hx0.1
        have hc1 := (hb.cell (p := ⟨b, o + k * 2 + 1, none⟩) (by omega)).trans hx0.2
        have hxl := hT xs[k] (by simp)
        have hnx := Lib.hid (show (few12 (k + 1) xs).flatMap entV = (few12 k xs).flatMap entV ++ [.string (mk (110 :: xs[k].1.take 12)), .int .i64 xs[k].2] by unfold few12; rw [List.take_succ_eq_append_getElem c1, List.map_append, List.flatMap_append]; rfl)
        have hgw : g ≤ wr.heap.size := by have := hb.size; omega
        have d1 := cut12 xs[k].1 (by omega)
        have hcat : ∀ W : World, (Op.stringOp .add ⟨#[110]⟩ (mk (xs[k].1.take 12))).run Try.prog W = .ok (.string (mk (110 :: xs[k].1.take 12))) W := by
          intro W
          rw [cat_run _ _ (by rw [mk_size, List.length_take]; show 1 + _ ≤ _; omega)]
          congr 2
        generalize 110 :: xs[k].1.take 12 = nm at *
        generalize xs[k].1.take 12 = n12 at *
        generalize xs[k] = x at *
        clear hx0 hx
        have hne : u.ownBlock ≠ some b := fun e => by have := (hown.lt b e).1; omega
        go_wp2
        go_region_held3 (fun w' => w'.cell? ⟨b, o + k * 2, none⟩ = some (.string (mk x.1)) ∧ w'.cell? ⟨b, o + k * 2 + 1, none⟩ = some (.int .i64 x.2))
          (first
            | go_keep
            | (go_split_ands
               refine ⟨?_, ?_⟩
               · (rw [hgrow.cell_far _ (by simp; omega) (Ne.symm hne)]; assumption)
               · (rw [hgrow.cell_far _ (by simp; omega) (Ne.symm hne)]; assumption)))
          (first
            | (go_at_call 24; refine (d1 _).mono ?_; rintro e w1' ⟨rfl, rfl⟩)
            | (refine step_append_lies _ (by rfl) _ _ _ (by rfl) g 42 i0 _ 2 24 Try.underlying22 hi hz0 hz1 hz2 rfl (by omega) u k _ (by rfl) ((hown.alloc _).drew)
                ⟨wr.heap.size, 0, none⟩ 1 1 [.string (mk nm), .int .i64 x.2] (by rfl) (by rfl) (World.news_of_block (cs := #[.string (mk nm), .int .i64 x.2]) (t := 42) (fr := (0, 0)) (heap_alloc_new wr _)) (by simp [Value.oneCell'])
                (by omega) (by unfold maxLen; omega) (by omega) (by simp; omega) (wr.heap.size + 1) (by simp) ?_; intro gg cap w1 hown1 hgrow hat hlt1))
        go_wp2
        go_roundw
        case rel =>
          refine ⟨k + 1, _, rfl, by omega, by omega, by go_num, by rw [hnx.out]; exact hown1, ?_⟩
          exact grow_low ((hb.alloc hgw _).drew) (by simp; omega) hgrow (fun b e => (hown.lt b e).1)
        case measure => simp [intOf]; omega
      · have hk : k = n := by omega
        subst hk
        go_wp2
        go_ret
        refine ⟨u, rfl, ?_, ?_⟩ <;> (try rw [hg])
        · rw [show (few12 k xs).length = k by unfold few12; simp; omega]; exact hown
        · exact hb
    · have hk : k = xs.length := by omega
      have hnx := Lib.hid (show few12 k xs = few12 n xs by unfold few12; rw [List.take_of_length_le (by omega), List.take_of_length_le (by omega)])
      subst hk
      go_wp2
      go_ret
      refine ⟨u, rfl, ?_, ?_⟩ <;> (try rw [hg])
      · rw [← hnx.out, show (few12 xs.length xs).length = xs.length by unfold few12; simp]; exact hown
      · exact hb
theorem infoM : (Try.prog.info? 54).map (fun i => (i.zero, i.size, i.bytes)) = some (some (.agg #[.string ⟨#[]⟩, .int .i64 0]), 2, 24) := by kernel_rfl
set_option maxRecDepth 100000 in
set_option maxHeartbeats 4000000 in
theorem own_any (xs : List Ent) (v : Value) (w : World) (hv : Ents w v xs) (hN : xs.length ≤ 1000000000000) :
    Calls Try.prog 11 #[v] w fun e w' => ∃ u, e = .returned u ∧ w'.ownsRow w.heap.size 54 2 u xs.length (xs.flatMap entV) ∧ Below w.heap.size w w' := by
  obtain ⟨i0, hi, hz0, hz1, hz2⟩ := info_parts infoM
  obtain ⟨A, c, rfl, hc, hr⟩ := hv
  have hb0 : Below w.heap.size w w := Below.refl _ _
  have ho0 : w.ownsRow w.heap.size 54 2 (.slice none 0 0) 0 [] := World.ownsRow_nil _ _ _ _
  go_enter Try.func11, Try.ntmps11
  go_wp2
  generalize hg : w.heap.size = g at *
  go_loopw [3, 8] (fun u i wr => ∃ (k : Nat) (u0 : Value), u0 = u ∧ k ≤ xs.length ∧ i = .int .i64 k ∧ wr.ownsRow g 54 2 u k ((xs.take k).flatMap entV) ∧ Below g w wr) (fun _ i _ => xs.length - (intOf i).toNat)
  case atStart => exact ⟨0, _, rfl, Nat.zero_le _, rfl, ho0, hb0⟩
  case round =>
    obtain ⟨k, u, rfl, hk, rfl, hown, hb⟩ := hrel
    by_cases c1 : k < xs.length
    · obtain ⟨b, o, rfl, hlt, hx⟩ := hr (by omega)
      have hx0 := hx k xs[k] (by simp [c1])
      have hc0 := (hb.cell (p := ⟨b, o + k * 2, none⟩) (by omega)).trans hx0.1
      have hc1 := (hb.cell (p := ⟨b, o + k * 2 + 1, none⟩) (by omega)).trans hx0.2
      have hnx := Lib.hid (show (xs.take (k + 1)).flatMap entV = (xs.take k).flatMap entV ++ [.string (mk xs[k].1), .int .i64 xs[k].2] by rw [List.take_succ_eq_append_getElem c1, List.flatMap_append]; rfl)
      have hgw : g ≤ wr.heap.size := by have := hb.size; omega
      generalize xs[k] = x at *
      clear hx0 hx
      have hbk := heap_alloc_new (wr.alloc (Obj.cells #[.string (mk x.1), .int .i64 x.2] 42)) (Obj.cells #[.string (mk x.1), .int .i64 x.2] 54)
      rw [World.size_alloc] at hbk
      go_wp2_with (at_builtin; refine wpList_append_own _ rfl _ _ 32 rfl g 54 i0 _ 2 24 Try.underlying32 hi hz0 hz1 hz2 rfl (by decide) _ _ _ rfl ((hown.alloc _).alloc _) ⟨_, 0, none⟩ 1 1 [.string (mk x.1), .int .i64 x.2] rfl rfl (World.news_of_block hbk) (by simp [Value.oneCell']) (by unfold maxLen; omega) (by omega) (by simp; omega) ?_; intro v' w1 hown' hgrow _)
      go_roundw
      case rel => exact ⟨k + 1, _, rfl, by omega, by go_num, by rw [hnx.out]; exact hown', grow_low ((hb.alloc hgw _).alloc (by simp; omega) _) (by simp; omega) hgrow (fun b e => (hown.lt b e).1)⟩
      case measure => simp [intOf]; omega
    · have hk : k = xs.length := by omega
      subst hk
      go_wp2
      go_ret
      refine ⟨u, rfl, ?_, ?_⟩ <;> (try rw [hg])
      · rw [List.take_of_length_le (by omega)] at hown; exact hown
      · exact hb
end Go.Proofs.Ytclngmjfhlindaa.Ma
