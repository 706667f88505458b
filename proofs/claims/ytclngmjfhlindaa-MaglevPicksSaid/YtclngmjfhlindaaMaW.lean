/- The document's Walk. -/
import Derived.Test.YtclngmjfhlindaaMaY
namespace Go.Proofs.Ytclngmjfhlindaa.Ma
open Go.RowKit Go.Proofs.Ytclngmjfhlindaa.Sip
set_option linter.unusedVariables false
theorem walkR_len (names : List (List UInt8)) (l : List (List UInt8)) : ∀ out, (walkR names out l).length ≤ out.length + l.length := by
  induction l with
  | nil => intro out; simp [walkR]
  | cons p l ih =>
    intro out
    rw [walkR]
    split
    · have := ih (out ++ [p]); simp at this ⊢; omega
    · have := ih out; simp at this ⊢; omega
theorem had_next {n y : List UInt8} {O : List (List UInt8)} {j : Nat} (hy : O[j]? = some y) {h : Bool} (hh : h = decide (n ∈ O.take j)) : (h || decide (y = n)) = decide (n ∈ O.take (j + 1)) := by
  subst hh
  rw [List.take_add_one, hy, Bool.eq_iff_iff]
  simp only [Option.toList_some, Bool.or_eq_true, decide_eq_true_iff, List.mem_append, List.mem_singleton]
  constructor
  · rintro (h | h)
    · exact .inl h
    · exact .inr h.symm
  · rintro (h | h)
    · exact .inl h
    · exact .inr h.symm
set_option maxRecDepth 100000 in
set_option maxHeartbeats 2000000 in
theorem refWalk_any (places names : List (List UInt8)) (vp vn : Value) (a : Nat) (w : World) (hp : Strs w vp places) (hn : Strs w vn names) (ha : a < places.length) (hl : places.length ≤ 1048576) (hnl : names.length ≤ 1000000) :
    Calls Try.prog 23 #[vp, vn, .int .i64 (a : Int)] w fun e w' => ∃ v, e = .returned v ∧ OwnStrs w' w.heap.size v (walkR names [] (roundL places a)) ∧ Below w.heap.size w w' := by
  obtain ⟨i1, hi1, hy0, hy1, hy2⟩ := info_parts infoStr
  have hb0 : Below w.heap.size w w := Below.refl _ _
  obtain ⟨A, ca, rfl, hca, hra⟩ := hp
  obtain ⟨B, cb, rfl, hcb, hrb⟩ := hn
  obtain ⟨ba, oa, rfl, hla, hxa⟩ := hra (by omega)
  have hrl := Lib.hid (round_len places a (by omega))
  go_enter Try.func23, Try.ntmps23
  go_wp2
  have ho0 : (w.alloc (.cells #[] 9)).ownsRow w.heap.size 9 1 (.slice (some ⟨w.heap.size, 0, none⟩) 0 0) (walkR names [] ((roundL places a).take 0)).length ((walkR names [] ((roundL places a).take 0)).map (fun x => Value.string (mk x))) := World.ownsRow_lit w #[] 0 (Nat.le_refl _) (by unfold maxLen; omega) rfl
  have hb1 := hb0.alloc (Nat.le_refl _) (.cells #[] 9)
  generalize w.alloc (.cells #[] 9) = w0 at *
  generalize hg : w.heap.size = g at *
  go_loopw [7, 19] (fun u i wr => ∃ (k : Nat) (u0 : Value), u0 = u ∧ k ≤ places.length ∧ i = .int .i64 k ∧ wr.ownsRow g 9 1 u (walkR names [] ((roundL places a).take k)).length ((walkR names [] ((roundL places a).take k)).map (fun x => Value.string (mk x))) ∧ Below g w wr) (fun _ i _ => places.length - (intOf i).toNat)
  case atStart => exact ⟨0, _, rfl, Nat.zero_le _, rfl, ho0, hb1⟩
  case round =>
    obtain ⟨k, u, rfl, hk, rfl, hown, hb⟩ := hrel
    by_cases c1 : k < places.length
    · have hgw : g ≤ wr.heap.size := by have := hb.size; omega
      have hml : (a + k) % places.length < places.length := Nat.mod_lt _ (by omega)
      have hrg := round_get places a k ha c1
      have hgp : places[(a + k) % places.length]? = some places[(a + k) % places.length] := List.getElem?_eq_getElem hml
      have hpc := (hb.cell (p := ⟨ba, oa + (a + k) % places.length, none⟩) (by show ba < _; omega)).trans (hxa _ _ hgp)
      have hOl := walkR_len names ((roundL places a).take k) []
      rw [List.length_take] at hOl
      have hnx := Lib.hid (show walkR names [] ((roundL places a).take (k + 1)) = if places[(a + k) % places.length] ∈ names ∧ places[(a + k) % places.length] ∉ walkR names [] ((roundL places a).take k) then walkR names [] ((roundL places a).take k) ++ [places[(a + k) % places.length]] else walkR names [] ((roundL places a).take k) by
        rw [List.take_add_one, hrg, hgp]
        exact walkR_snoc _ _ _ _)
      generalize hOO : walkR names [] ((roundL places a).take k) = O at *
      generalize places[(a + k) % places.length] = n at *
      have x1 : IntKind.i64.wrap ((a : Int) + (k : Int)) = (a : Int) + (k : Int) := IntWalk.i64_in _ (by omega)
      have x2 : ((a : Int) + (k : Int)).tmod (places.length : Int) = (((a + k) % places.length : Nat) : Int) := rfl
      have x3 : ¬ (places.length : Int) = 0 := by omega
      have x4 : ¬ places.length = 0 := by omega
      generalize (a + k) % places.length = ix at *
      have z1 : (0 : Int) ≤ (ix : Int) := by omega
      have z2 : (ix : Int) < (places.length : Int) := by omega
      have hOS := row_strs hown
      obtain ⟨A5, c5, rfl⟩ := row_slice hown
      obtain ⟨A5', c5', hAe, hc5, hr5⟩ := hOS
      cases hAe
      clear hrg hgp hOO hrl
      have hbk := heap_alloc_new wr (Obj.cells #[.string (mk n)] 9)
      have hno := Lib.hid hown
      have hOl' : O.length ≤ 1048576 := by simp at hOl; omega
      clear hOl hown
      go_wp2
      go_loop [10, 33] (fun hv iv => ∃ (j : Nat) (h : Bool), j ≤ O.length ∧ iv = .int .i64 j ∧ hv = .bool h ∧ Hid (h = decide (n ∈ O.take j))) (fun _ iv => O.length - (intOf iv).toNat)
      case atStart => exact ⟨0, false, Nat.zero_le _, rfl, rfl, Lib.hid (by simp)⟩
      case round =>
        obtain ⟨j, h, hj, rfl, rfl, hh⟩ := hrel
        by_cases c2 : j < O.length
        · obtain ⟨b5, o5, rfl, hl5, hx5⟩ := hr5 (by omega)
          obtain ⟨y, hy⟩ : ∃ y, O[j]? = some y := ⟨_, List.getElem?_eq_getElem c2⟩
          have hc := hx5 j y hy
          clear hx5
          have hnn := Lib.hid (had_next hy hh.out)
          clear hy
          have c2' : (j : Int) < (O.length : Int) := by omega
          cases h
          · by_cases e : y = n
            · have ht : ((mk y).toList == (mk n).toList) = true := by rw [mk_eq, decide_eq_true e]
              have hnn2 := Lib.hid (show true = decide (n ∈ O.take (j + 1)) by rw [← hnn.out, decide_eq_true e]; rfl)
              clear e hnn
              go_wp2
              go_round
              case rel => exact ⟨j + 1, true, by omega, by go_num, by first | rfl | rw [ht], hnn2⟩
              case measure => simp [intOf]; omega
            · have ht : ((mk y).toList == (mk n).toList) = false := by rw [mk_eq, decide_eq_false e]
              have hnn2 := Lib.hid (show false = decide (n ∈ O.take (j + 1)) by rw [← hnn.out, decide_eq_false e]; rfl)
              clear e hnn
              go_wp2
              go_round
              case rel => exact ⟨j + 1, false, by omega, by go_num, by first | rfl | rw [ht], hnn2⟩
              case measure => simp [intOf]; omega
          · have hnn2 := Lib.hid (show true = decide (n ∈ O.take (j + 1)) by rw [← hnn.out]; rfl)
            clear hnn
            go_wp2
            go_round
            case rel => exact ⟨j + 1, true, by omega, by go_num, by first | rfl | rw [ht], hnn2⟩
            case measure => simp [intOf]; omega
        · have hH := Lib.hid (show h = decide (n ∈ O) by have := hh.out; rwa [List.take_of_length_le (by omega)] at this)
          have c2' : ¬ (j : Int) < (O.length : Int) := by omega
          clear hh
          go_wp2
          go_loop [11, 46] (fun hv iv => ∃ (j : Nat) (h : Bool), j ≤ names.length ∧ iv = .int .i64 j ∧ hv = .bool h ∧ Hid (h = decide (n ∈ names.take j))) (fun _ iv => names.length - (intOf iv).toNat)
          case atStart => exact ⟨0, false, Nat.zero_le _, rfl, rfl, Lib.hid (by simp)⟩
          case round =>
            obtain ⟨q, h3, hq, rfl, rfl, hh⟩ := hrel
            by_cases c3 : q < names.length
            · obtain ⟨b6, o6, rfl, hl6, hx6⟩ := hrb (by omega)
              obtain ⟨y, hy⟩ : ∃ y, names[q]? = some y := ⟨_, List.getElem?_eq_getElem c3⟩
              have hc := (hb.cell (p := ⟨b6, o6 + q, none⟩) (by show b6 < _; omega)).trans (hx6 q y hy)
              have hnn := Lib.hid (had_next hy hh.out)
              clear hy
              have c3' : (q : Int) < (names.length : Int) := by omega
              cases h3
              · by_cases e : y = n
                · have ht : ((mk y).toList == (mk n).toList) = true := by rw [mk_eq, decide_eq_true e]
                  have hnn2 := Lib.hid (show true = decide (n ∈ names.take (q + 1)) by rw [← hnn.out, decide_eq_true e]; rfl)
                  clear e hnn
                  go_wp2
                  go_round
                  case rel => exact ⟨q + 1, true, by omega, by go_num, by first | rfl | rw [ht], hnn2⟩
                  case measure => simp [intOf]; omega
                · have ht : ((mk y).toList == (mk n).toList) = false := by rw [mk_eq, decide_eq_false e]
                  have hnn2 := Lib.hid (show false = decide (n ∈ names.take (q + 1)) by rw [← hnn.out, decide_eq_false e]; rfl)
                  clear e hnn
                  go_wp2
                  go_round
                  case rel => exact ⟨q + 1, false, by omega, by go_num, by first | rfl | rw [ht], hnn2⟩
                  case measure => simp [intOf]; omega
              · have hnn2 := Lib.hid (show true = decide (n ∈ names.take (q + 1)) by rw [← hnn.out]; rfl)
                clear hnn
                go_wp2
                go_round
                case rel => exact ⟨q + 1, true, by omega, by go_num, by first | rfl | rw [ht], hnn2⟩
                case measure => simp [intOf]; omega
            · have hM := Lib.hid (show h3 = decide (n ∈ names) by have := hh.out; rwa [List.take_of_length_le (by omega)] at this)
              have c3' : ¬ (q : Int) < (names.length : Int) := by omega
              clear hh
              cases h3
              · have hn2 := Lib.hid (show walkR names [] ((roundL places a).take (k + 1)) = O by
                  rw [hnx.out, if_neg]
                  intro hc; have := hM.out; rw [decide_eq_true hc.1] at this; cases this)
                have hown := hno.out
                clear hno
                go_wp2
                go_roundw
                case rel => exact ⟨k + 1, _, rfl, by omega, by go_num, by rw [hn2.out]; exact hown, hb⟩
                case measure => simp [intOf]; omega
              · cases h
                · have hn2 := Lib.hid (show walkR names [] ((roundL places a).take (k + 1)) = O ++ [n] by
                    rw [hnx.out, if_pos]
                    exact ⟨of_decide_eq_true hM.out.symm, of_decide_eq_false hH.out.symm⟩)
                  have hown := hno.out
                  clear hno
                  go_wp2_with (at_builtin; go_must (refine wpList_append_own _ rfl _ _ 36 rfl g 9 i1 _ 1 16 Try.underlying36 hi1 hy0 hy1 hy2 rfl (by decide) _ _ _ rfl (hown.alloc _) ⟨_, 0, none⟩ 1 1 [.string (mk n)] rfl rfl (World.news_of_block hbk) (by simp [Value.oneCell']) (by unfold maxLen; omega) (by omega) (by simp; omega) ?_; intro v' w5 hown' hgrow _))
                  go_roundw
                  case rel => exact ⟨k + 1, _, rfl, by omega, by go_num, by rw [hn2.out, List.map_append, List.length_append]; exact hown', grow_low (hb.alloc hgw _) (by simp; omega) hgrow (fun b e => (hown.lt b e).1)⟩
                  case measure => simp [intOf]; omega
                · have hn2 := Lib.hid (show walkR names [] ((roundL places a).take (k + 1)) = O by
                    rw [hnx.out, if_neg]
                    intro hc; have := hH.out; rw [decide_eq_false hc.2] at this; cases this)
                  have hown := hno.out
                  clear hno
                  go_wp2
                  go_roundw
                  case rel => exact ⟨k + 1, _, rfl, by omega, by go_num, by rw [hn2.out]; exact hown, hb⟩
                  case measure => simp [intOf]; omega
    · have hkl : (roundL places a).take k = roundL places a := List.take_of_length_le (by rw [hrl.out]; omega)
      rw [hkl] at hown
      go_wp2
      go_ret
      refine ⟨u, rfl, ?_, ?_⟩ <;> (try rw [hg])
      · unfold OwnStrs
        exact hown
      · exact hb
end Go.Proofs.Ytclngmjfhlindaa.Ma
