/- Parting at commas, as a plain law; stewardlaw01.Few; the document's List. -/
import Derived.Test.YtkbjklnkeammiaaDoorOctW
import Derived.BigQuiet
import Derived.Deep.QuietTactic
namespace Go.Proofs.YtkbjklnkeammiaaDoor.Oct
open Go.RowKit
set_option linter.unusedVariables false
theorem parts_ne (l : List UInt8) : parts l ≠ [] := by
  cases l with
  | nil => simp [parts]
  | cons x r => rw [parts_cons]; split; simp; split <;> simp
theorem parts_app (a b : List UInt8) : parts (a ++ 44 :: b) = parts a ++ parts b := by
  induction a with
  | nil => rw [List.nil_append, parts_cons, if_pos rfl]; rfl
  | cons x r ih =>
    rw [List.cons_append, parts_cons, parts_cons, ih]
    by_cases hx : x = 44
    · rw [if_pos hx, if_pos hx]; rfl
    · rw [if_neg hx, if_neg hx]
      cases hp : parts r with
      | nil => exact absurd hp (parts_ne r)
      | cons p q => rfl
theorem parts_seg {l : List UInt8} (h : l.all (fun x => x != 44) = true) : parts l = [l] := by
  induction l with
  | nil => rfl
  | cons x r ih =>
    rw [List.all_cons, Bool.and_eq_true] at h
    rw [parts_cons, if_neg (by simpa using h.1), ih h.2]
theorem keepL_app (a b : List (List UInt8)) : keepL (a ++ b) = keepL a ++ keepL b := by simp [keepL]
theorem join_two (x y : List UInt8) (r : List (List UInt8)) : Lib.join (x :: y :: r) [44] = x ++ 44 :: Lib.join (y :: r) [44] := by simp [Lib.join]
/-- What all the texts' parts keep. -/
def eachL (l : List (List UInt8)) : List (List UInt8) := l.flatMap (fun x => keepL (parts x))
theorem listL_each (l : List (List UInt8)) : listL l = eachL l := by
  unfold listL eachL
  match l with
  | [] => decide +kernel
  | [x] => simp [Lib.join]
  | x :: y :: r =>
    rw [join_two, parts_app, keepL_app, List.flatMap_cons]
    have ih := listL_each (y :: r)
    unfold listL eachL at ih
    rw [ih]
def fewS (n most : Nat) (xs : List ByteArray) : List ByteArray := (xs.take n).map (cutS most)

theorem cut30 (s : ByteArray) (w : World) : Calls Tryd.prog 24 #[.string s, .int .i64 30] w fun e w' => e = .returned (.string (cutS 30 s)) ∧ w = w' := cut_any s 30 w

set_option maxRecDepth 100000 in
set_option maxHeartbeats 1000000 in
theorem few_any (xs : List ByteArray) (v : Value) (w : World) (hv : Strs w v xs) (hN : xs.length ≤ 140737488355328) :
    Calls Tryd.prog 20 #[v, .int .i64 6, .int .i64 30] w fun e w' => ∃ u, e = .returned u ∧ OwnStrs w' w.heap.size u (fewS 6 30 xs) ∧ Below w.heap.size w w' := by
  obtain ⟨i0, hi, hz0, hz1, hz2⟩ := info_parts info9
  obtain ⟨A, c, rfl, hc, hr⟩ := hv
  have hb0 : Below w.heap.size w w := Below.refl _ _
  have ho0 : w.ownsRow w.heap.size 9 1 (.slice none 0 0) 0 [] := World.ownsRow_nil _ _ _ _
  go_enter Tryd.func20, Tryd.ntmps20
  go_wp2_with fail
  generalize hg : w.heap.size = g at *
  go_loopw [7, 8] (fun u i wr => ∃ (k : Nat) (u0 : Value), u0 = u ∧ k ≤ xs.length ∧ k ≤ 6 ∧ i = .int .i64 k ∧ wr.ownsRow g 9 1 u k (((xs.take k).map (cutS 30)).map Value.string) ∧ Below g w wr) (fun _ i _ => 6 - (intOf i).toNat)
  case atStart => exact ⟨0, _, rfl, Nat.zero_le _, Nat.zero_le _, rfl, ho0, hb0⟩
  case round =>
    obtain ⟨k, u, rfl, hk, hk6, rfl, hown, hb⟩ := hrel
    have hend0 : ∀ W' : World, xs.take k = xs.take 6 → k = (xs.take 6).length → W'.ownsRow g 9 1 u k (((xs.take k).map (cutS 30)).map Value.string) → OwnStrs W' g u (fewS 6 30 xs) := by
      intro W' e1 e2 h
      unfold OwnStrs fewS
      rw [← e1, List.length_map, show (xs.take k).length = k by rw [e1]; exact e2.symm]
      exact h
    have hend := Lib.hid hend0
    clear hend0
    by_cases c1 : k < xs.length
    · by_cases c2 : k < 6
      · obtain ⟨b, o, rfl, hlt, hx⟩ := hr (by omega)
        have hc0 := (hb.cell (p := ⟨b, o + k, none⟩) (by omega)).trans (hx k xs[k] (by simp [c1]))
        have hnx := Lib.hid (show ((xs.take (k + 1)).map (cutS 30)).map Value.string = ((xs.take k).map (cutS 30)).map Value.string ++ [Value.string (cutS 30 xs[k])] by rw [List.take_succ_eq_append_getElem c1, List.map_append, List.map_append]; rfl)
        have hgw : g ≤ wr.heap.size := by have := hb.size; omega
        go_wp2_with (first
          | (go_at_call 24; with_reducible refine (cut30 _ _).mono ?_; rintro e w1' ⟨rfl, rfl⟩)
          | (at_builtin; refine wpList_append_own _ rfl _ _ 32 rfl g 9 i0 (.string ⟨#[]⟩) 1 16 Tryd.underlying32 hi hz0 hz1 hz2 rfl (by decide) _ _ _ rfl (hown.alloc _) ⟨_, 0, none⟩ 1 1 [.string (cutS 30 xs[k])] rfl rfl (cell_one_new _ _ _) (by simp [Value.oneCell']) (by unfold maxLen; omega) (by omega) (by have := hb.size; simp; omega) ?_; intro v' w1 hown' hgrow _))
        go_roundw
        case rel => exact ⟨k + 1, _, rfl, by omega, by omega, by go_num, by rw [hnx.out]; exact hown', grow_low (hb.alloc hgw _) (by simp; omega) hgrow (fun b e => (hown.lt b e).1)⟩
        case measure => simp [intOf]; omega
      · have hk : k = 6 := by omega
        subst hk
        go_wp2_with fail
        go_ret
        refine ⟨u, rfl, ?_, ?_⟩ <;> (try rw [hg])
        · exact hend.out _ (by first | rfl | trivial) (by simp; omega) hown
        · exact hb
    · have hk : k = xs.length := by omega
      subst hk
      go_wp2_with fail
      go_ret
      refine ⟨u, rfl, ?_, ?_⟩ <;> (try rw [hg])
      · exact hend.out _ (by rw [List.take_of_length_le (by omega), List.take_of_length_le (by omega)]) (by simp; omega) hown
      · exact hb

/-! ### The document's List -/
/-- A part begins at 'f' and is read up to 'i': what is parted so far, and what is to come. -/
theorem part_more {l : List UInt8} {f i : Nat} (hf : f ≤ i) (hi : i < l.length) (hx : l[i] ≠ 44) (h : ((l.take i).drop f).all (fun x => x != 44) = true) : ((l.take (i + 1)).drop f).all (fun x => x != 44) = true := by
  rw [List.take_succ_eq_append_getElem hi, List.drop_append_of_le_length (by simp; omega), List.all_append, h]
  simp [hx]
theorem part_eq {l : List UInt8} {f i : Nat} (hf : f ≤ i) (hi : i ≤ l.length) : l.drop f = (l.take i).drop f ++ l.drop i := by
  conv => lhs; rw [← List.take_append_drop i l]
  rw [List.drop_append_of_le_length (by simp; omega)]
theorem part_at {l : List UInt8} {f i : Nat} (hf : f ≤ i) (hi : i < l.length) (hx : l[i] = 44) (h : ((l.take i).drop f).all (fun x => x != 44) = true) : parts (l.drop f) = (l.take i).drop f :: parts (l.drop (i + 1)) := by
  rw [part_eq hf (by omega), List.drop_eq_getElem_cons hi, hx, parts_app, parts_seg h]; rfl
theorem part_last {l : List UInt8} {f : Nat} (h : ((l.take l.length).drop f).all (fun x => x != 44) = true) : parts (l.drop f) = [(l.take l.length).drop f] := by
  rw [List.take_of_length_le (by omega)] at h ⊢
  exact parts_seg h
theorem ba_cut (s : ByteArray) (f i : Nat) : s.extract f i = ⟨((s.data.toList.take i).drop f).toArray⟩ := by
  apply Go.WideShapes.bytes_inj
  simp [List.drop_take]
theorem flat_snoc (xs : List ByteArray) (k : Nat) (h : k < xs.length) : eachL ((xs.take (k + 1)).map (·.data.toList)) = eachL ((xs.take k).map (·.data.toList)) ++ keepL (parts xs[k].data.toList) := by
  rw [List.take_succ_eq_append_getElem h]; rw [List.map_append]; simp [eachL]
set_option maxRecDepth 100000 in
set_option maxHeartbeats 12000000 in
theorem refList_any (xs : List ByteArray) (v : Value) (w : World) (hv : Strs w v xs) (hN : xs.length ≤ 100) (hZ : ∀ x ∈ xs, x.size ≤ 1000) :
    Calls Tryd.prog 23 #[v] w fun e w' => ∃ u, e = .returned u ∧ OwnStrs w' w.heap.size u (listS xs) ∧ Below w.heap.size w w' := by
  obtain ⟨i0, hi, hz0, hz1, hz2⟩ := info_parts info9
  obtain ⟨A, c, rfl, hc, hr⟩ := hv
  go_enter Tryd.func23, Tryd.ntmps23
  go_wp2_with fail
  have hb0 : Below w.heap.size w (w.alloc (.cells #[] 9)) := (Below.refl _ _).alloc (Nat.le_refl _) _
  have ho0 : (w.alloc (.cells #[] 9)).ownsRow w.heap.size 9 1 (.slice (some ⟨w.heap.size, 0, none⟩) 0 0) 0 [] := ⟨rfl, .inr ⟨w.heap.size, 0, #[], rfl, Nat.le_refl _, blk_new _ _, Nat.le_refl _, by decide, rfl, rfl⟩⟩
  have hz : w.heap.size + 1 ≤ (w.alloc (.cells #[] 9)).heap.size := by simp
  generalize w.alloc (.cells #[] 9) = W0 at *
  generalize hg : w.heap.size = g at *
  go_loopw [3, 12] (fun u i wr => ∃ (k : Nat) (u0 : Value) (K : List (List UInt8)), u0 = u ∧ k ≤ xs.length ∧ i = .int .i64 k ∧ wr.ownsRow g 9 1 u K.length (K.map strV) ∧ Hid (K = eachL ((xs.take k).map (·.data.toList))) ∧ K.length ≤ 1001 * k ∧ Below g w wr) (fun _ i _ => xs.length - (intOf i).toNat)
  case atStart => exact ⟨0, _, [], rfl, Nat.zero_le _, rfl, ho0, Lib.hid rfl, Nat.zero_le _, hb0⟩
  case round =>
    obtain ⟨k, u, K, rfl, hk, rfl, hown, hK, hKl, hb⟩ := hrel
    by_cases c1 : k < xs.length
    · obtain ⟨b, o, rfl, hlt, hx⟩ := hr (by omega)
      have hc0 := (hb.cell (p := ⟨b, o + k, none⟩) (by omega)).trans (hx k xs[k] (by simp [c1]))
      have hsz : xs[k].size ≤ 1000 := hZ _ (by simp)
      have hfl := Lib.hid (flat_snoc xs k c1)
      generalize hs : xs[k] = s at *
      go_wp2_with fail
      go_loopw [6, 7, 3] (fun fv iv u wr2 => ∃ (f j : Nat) (u0 : Value) (D K2 : List (List UInt8)), u0 = u ∧ fv = .int .i64 f ∧ iv = .int .i64 j ∧ f ≤ j ∧ j ≤ s.size + 1 ∧ (j ≤ s.size ∨ f = j) ∧ Hid (((s.data.toList.take j).drop f).all (fun x => x != 44) = true) ∧ Hid (parts s.data.toList = D ++ (if f ≤ s.size then parts (s.data.toList.drop f) else [])) ∧ wr2.ownsRow g 9 1 u K2.length (K2.map strV) ∧ Hid (K2 = K ++ keepL D) ∧ K2.length ≤ 1001 * k + j ∧ Below g w wr2) (fun _ i _ _ => s.size + 1 - (intOf i).toNat)
      case atStart => exact ⟨0, 0, _, [], K, rfl, rfl, rfl, Nat.le_refl _, by omega, .inl (Nat.zero_le _), Lib.hid rfl, Lib.hid (by rw [if_pos (Nat.zero_le _)]; rfl), hown, Lib.hid (by simp [keepL]), by omega, hb⟩
      case round =>
        obtain ⟨f, j, u2, D, K2, rfl, rfl, rfl, hfj, hj, hor, hseg, hpt, hown2, hK2, hK2l, hb2⟩ := hrel
        by_cases c2 : j ≤ s.size
        · by_cases c3 : j < s.size
          · have hb8 : (s[j].toNat : Int) < 256 := by have := s[j].toNat_lt; omega
            by_cases c4 : (s[j].toNat : Int) = 44
            · have hx44 : s[j] = 44 := by apply UInt8.toNat_inj.1; have : s[j].toNat = 44 := by omega
                                          rw [this]; rfl
              have HPt := Lib.hid (show parts s.data.toList = (D ++ [(s.data.toList.take j).drop f]) ++ (if j + 1 ≤ s.size then parts (s.data.toList.drop (j + 1)) else []) by
                rw [hpt.out, if_pos (show f ≤ s.size by omega), if_pos (show j + 1 ≤ s.size by omega), part_at hfj (by rw [len_sz]; exact c3) (by rw [Array.getElem_toList]; exact hx44) hseg.out]; simp)
              have HS0 := Lib.hid (show ((s.data.toList.take (j + 1)).drop (j + 1)).all (fun x => x != 44) = true by rw [List.drop_eq_nil_of_le (by first | (simp; done) | (simp; omega))]; rfl)
              obtain ⟨L, hL⟩ : ∃ L, trimL ((s.data.toList.take j).drop f) = L := ⟨_, rfl⟩
              have hsn := Lib.hid (keepL_snoc D ((s.data.toList.take j).drop f))
              rw [hL] at hsn
              have hex : (s.extract f j).size ≤ maxLen := by unfold maxLen; simp; omega
              obtain ⟨P, hP⟩ : ∃ P, trimS (s.extract f j) = P := ⟨_, rfl⟩
              have hPL : P = ⟨L.toArray⟩ := by rw [← hP, ba_cut, trimS_mk, hL]
              have d1 := fun W => hP ▸ refTrim_any (s.extract f j) hex W
              clear hP hex hL
              cases he : L.isEmpty
              · have he2 : P.toList.isEmpty = false := by rw [hPL, Lib.toList_data]; exact he
                have HE := Lib.hid he
                have HPL := Lib.hid hPL
                clear he hPL
                have HK2 := Lib.hid (show K2 ++ [L] = K ++ keepL (D ++ [(s.data.toList.take j).drop f]) by rw [hK2.out, hsn.out, HE.out]; simp)
                have HKV := Lib.hid (show (K2 ++ [L]).map strV = K2.map strV ++ [.string P] by rw [HPL.out, List.map_append]; rfl)
                have hgw : g ≤ wr.heap.size := by have := hb2.size; omega
                clear hsn
                go_wp2_with (first | (go_at_call 35; with_reducible refine (d1 _).mono ?_; rintro e w1 ⟨rfl, rfl⟩) | (at_builtin; refine wpList_append_own _ rfl _ _ 32 rfl g 9 i0 (.string ⟨#[]⟩) 1 16 Tryd.underlying32 hi hz0 hz1 hz2 rfl (by decide) _ _ _ rfl (hown2.alloc _) ⟨_, 0, none⟩ 1 1 [.string P] rfl rfl (cell_one_new _ _ _) (by simp [Value.oneCell']) (by unfold maxLen; omega) (by omega) (by have := hb2.size; simp; omega) ?_; intro v' w1 hown' hgrow _))
                go_roundw
                case rel => exact ⟨j + 1, j + 1, _, D ++ [(s.data.toList.take j).drop f], K2 ++ [L], rfl, by go_num, by go_num, Nat.le_refl _, by omega, .inr rfl, HS0, HPt, by rw [List.length_append, HKV.out]; exact hown', HK2, by rw [List.length_append]; simp; omega, grow_low (hb2.alloc hgw _) (by simp; omega) hgrow (fun b e => (hown2.lt b e).1)⟩
                case measure => first | (simp [intOf]; done) | (simp [intOf]; omega)
              · have he2 : P.toList.isEmpty = true := by rw [hPL, Lib.toList_data]; exact he
                have HE := Lib.hid he
                have HPL := Lib.hid hPL
                clear he hPL
                have HK2 := Lib.hid (show K2 = K ++ keepL (D ++ [(s.data.toList.take j).drop f]) by rw [hK2.out, hsn.out, HE.out]; simp)
                have hgw : g ≤ wr.heap.size := by have := hb2.size; omega
                clear hsn
                go_wp2_with (first | (go_at_call 35; with_reducible refine (d1 _).mono ?_; rintro e w1 ⟨rfl, rfl⟩))
                go_roundw
                case rel => exact ⟨j + 1, j + 1, _, D ++ [(s.data.toList.take j).drop f], K2, rfl, by go_num, by go_num, Nat.le_refl _, by omega, .inr rfl, HS0, HPt, hown2, HK2, by omega, hb2⟩
                case measure => first | (simp [intOf]; done) | (simp [intOf]; omega)
            · have hne : s[j] ≠ 44 := by intro e; rw [e] at c4; exact c4 rfl
              have HSg := Lib.hid (part_more hfj (by rw [len_sz]; exact c3) (by rw [Array.getElem_toList]; exact hne) hseg.out)
              clear hne
              go_wp2_with fail
              go_roundw
              case rel => exact ⟨f, j + 1, _, D, K2, rfl, rfl, by go_num, by omega, by omega, .inl (by omega), HSg, hpt, hown2, hK2, by omega, hb2⟩
              case measure => simp [intOf]; omega
          · have hje : j = s.size := by omega
            subst hje
            have HPt := Lib.hid (show parts s.data.toList = (D ++ [(s.data.toList.take s.size).drop f]) ++ (if s.size + 1 ≤ s.size then parts (s.data.toList.drop (s.size + 1)) else []) by
              rw [hpt.out, if_pos (show f ≤ s.size by omega), if_neg (by omega)]
              have hj : s.size = s.data.toList.length := by rw [len_sz]
              have h := hseg.out
              rw [hj] at h ⊢
              rw [part_last h]; simp)
            have HS0 := Lib.hid (show ((s.data.toList.take (s.size + 1)).drop (s.size + 1)).all (fun x => x != 44) = true by rw [List.drop_eq_nil_of_le (by first | (simp; done) | (simp; omega))]; rfl)
            obtain ⟨L, hL⟩ : ∃ L, trimL ((s.data.toList.take s.size).drop f) = L := ⟨_, rfl⟩
            have hsn := Lib.hid (keepL_snoc D ((s.data.toList.take s.size).drop f))
            rw [hL] at hsn
            have hex : (s.extract f s.size).size ≤ maxLen := by unfold maxLen; simp; omega
            obtain ⟨P, hP⟩ : ∃ P, trimS (s.extract f s.size) = P := ⟨_, rfl⟩
            have hPL : P = ⟨L.toArray⟩ := by rw [← hP, ba_cut, trimS_mk, hL]
            have d1 := fun W => hP ▸ refTrim_any (s.extract f s.size) hex W
            clear hP hex hL
            cases he : L.isEmpty
            · have he2 : P.toList.isEmpty = false := by rw [hPL, Lib.toList_data]; exact he
              have HE := Lib.hid he
              have HPL := Lib.hid hPL
              clear he hPL
              have HK2 := Lib.hid (show K2 ++ [L] = K ++ keepL (D ++ [(s.data.toList.take s.size).drop f]) by rw [hK2.out, hsn.out, HE.out]; simp)
              have HKV := Lib.hid (show (K2 ++ [L]).map strV = K2.map strV ++ [.string P] by rw [HPL.out, List.map_append]; rfl)
              have hgw : g ≤ wr.heap.size := by have := hb2.size; omega
              clear hsn
              go_wp2_with (first | (go_at_call 35; with_reducible refine (d1 _).mono ?_; rintro e w1 ⟨rfl, rfl⟩) | (at_builtin; refine wpList_append_own _ rfl _ _ 32 rfl g 9 i0 (.string ⟨#[]⟩) 1 16 Tryd.underlying32 hi hz0 hz1 hz2 rfl (by decide) _ _ _ rfl (hown2.alloc _) ⟨_, 0, none⟩ 1 1 [.string P] rfl rfl (cell_one_new _ _ _) (by simp [Value.oneCell']) (by unfold maxLen; omega) (by omega) (by have := hb2.size; simp; omega) ?_; intro v' w1 hown' hgrow _))
              go_roundw
              case rel => exact ⟨s.size + 1, s.size + 1, _, D ++ [(s.data.toList.take s.size).drop f], K2 ++ [L], rfl, by go_num, by go_num, Nat.le_refl _, by omega, .inr rfl, HS0, HPt, by rw [List.length_append, HKV.out]; exact hown', HK2, by rw [List.length_append]; simp; omega, grow_low (hb2.alloc hgw _) (by simp; omega) hgrow (fun b e => (hown2.lt b e).1)⟩
              case measure => first | (simp [intOf]; done) | (simp [intOf]; omega)
            · have he2 : P.toList.isEmpty = true := by rw [hPL, Lib.toList_data]; exact he
              have HE := Lib.hid he
              have HPL := Lib.hid hPL
              clear he hPL
              have HK2 := Lib.hid (show K2 = K ++ keepL (D ++ [(s.data.toList.take s.size).drop f]) by rw [hK2.out, hsn.out, HE.out]; simp)
              have hgw : g ≤ wr.heap.size := by have := hb2.size; omega
              clear hsn
              go_wp2_with (first | (go_at_call 35; with_reducible refine (d1 _).mono ?_; rintro e w1 ⟨rfl, rfl⟩))
              go_roundw
              case rel => exact ⟨s.size + 1, s.size + 1, _, D ++ [(s.data.toList.take s.size).drop f], K2, rfl, by go_num, by go_num, Nat.le_refl _, by omega, .inr rfl, HS0, HPt, hown2, HK2, by omega, hb2⟩
              case measure => first | (simp [intOf]; done) | (simp [intOf]; omega)
        · have hje : j = s.size + 1 := by omega
          have hfe : f = j := by omega
          have HKn := Lib.hid (show K2 = eachL ((xs.take (k + 1)).map (·.data.toList)) by rw [hfl.out, hK2.out, hK.out, hpt.out, if_neg (by omega), List.append_nil])
          go_wp2_with fail
          go_roundw
          case rel => exact ⟨k + 1, _, K2, rfl, by omega, by go_num, hown2, HKn, by omega, hb2⟩
          case measure => simp [intOf]; omega
    · have hke : k = xs.length := by omega
      subst hke
      have HF := Lib.hid (show K = listL (xs.map (·.data.toList)) by rw [hK.out, List.take_of_length_le (by omega), listL_each])
      go_wp2_with fail
      go_ret
      refine ⟨u, rfl, ?_, ?_⟩ <;> (try rw [hg])
      · unfold OwnStrs listS
        rw [← HF.out]
        have e1 : (K.map (fun p => (⟨p.toArray⟩ : ByteArray))).map Value.string = K.map strV := by simp [strV]
        rw [e1, List.length_map]
        exact hown
      · exact hb
end Go.Proofs.YtkbjklnkeammiaaDoor.Oct
