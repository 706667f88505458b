/- A status line: the program's ParseStatus beside the document's. -/
import Derived.Test.YtkbjklnkeammiaaDoorStF
namespace Go.Proofs.YtkbjklnkeammiaaDoor.Oct
open Go.RowKit
set_option linter.unusedVariables false
def ver9 : List UInt8 := [72, 84, 84, 80, 47, 49, 46, 49, 32]
def dOf (l : List UInt8) : Int × Int := numS 10 10 (mk ((l.drop 9).take 3)) 599
/-- A status line's code and words, and what is wrong. -/
def stOf (l : List UInt8) : (Int × List UInt8) × Int :=
  if 12 ≤ l.length ∧ l.take 9 = ver9 ∧ (dOf l).2 = 0 ∧ 200 ≤ (dOf l).1 ∧ (l.length = 12 ∨ (l.drop 12).head? = some 32) ∧ valueS (mk (l.drop 13)) = true
  then (((dOf l).1, l.drop 13), 0) else ((0, []), 2)
def stV (r : Int × List UInt8) : Value := .agg #[.int .i64 r.1, .string (mk r.2)]
theorem trimP (l p : List UInt8) : Lib.trimPrefix l p = if Lib.hasPrefix l p = true then l.drop p.length else l := rfl
theorem hasP (l p : List UInt8) : Lib.hasPrefix l p = decide (l.take p.length = p) := by
  unfold Lib.hasPrefix
  rw [Bool.eq_iff_iff, List.isPrefixOf_iff_prefix, decide_eq_true_eq, List.prefix_iff_eq_take]
  exact ⟨fun h => h.symm, fun h => h.symm⟩
theorem ext_drop (s : ByteArray) (i : Nat) : s.extract i s.size = mk (s.data.toList.drop i) := ba_drop s i
theorem ext_take (s : ByteArray) (i : Nat) : s.extract 0 i = mk (s.data.toList.take i) := ba_take s i
theorem ext_mid (s : ByteArray) (i j : Nat) : s.extract i (i + j) = mk ((s.data.toList.drop i).take j) := by
  apply Go.WideShapes.bytes_inj
  rw [data_mk]
  simp
theorem val_nil : valueS (mk []) = true := by decide +kernel
theorem cutP_any (s p : ByteArray) (w : World) :
    Calls Tryd.prog 81 #[.string s, .string p] w fun e w' => e = .returned (.tuple #[.string (mk (Lib.trimPrefix s.data.toList p.data.toList)), .bool (Lib.hasPrefix s.data.toList p.data.toList)]) ∧ w = w' :=
  (Tryd.strings_CutPrefix s p w).mono fun e w' h => ⟨h.1, h.2.symm⟩
set_option maxRecDepth 100000 in
set_option maxHeartbeats 4000000 in
theorem parseStatus_any (s : ByteArray) (hs : s.size ≤ 100000) (w : World) :
    Calls Tryd.prog 51 #[.string s] w fun e w' => e = .returned (.tuple #[stV (stOf s.data.toList).1, .int .i64 (stOf s.data.toList).2]) ∧ Below w.heap.size w w' := by
  have d0 := cutP_any s ⟨#[72, 84, 84, 80, 47, 49, 46, 49, 32]⟩
  rw [show (⟨#[72, 84, 84, 80, 47, 49, 46, 49, 32]⟩ : ByteArray).data.toList = ver9 from rfl, trimP, hasP] at d0
  have hz : s.data.toList.length = s.size := len_sz s
  generalize hl : s.data.toList = l at *
  obtain ⟨R, hR⟩ : ∃ R, stOf l = R := ⟨_, rfl⟩
  rw [hR]
  have HR := Lib.hid hR
  clear hR
  have bad : ¬ (12 ≤ l.length ∧ l.take 9 = ver9 ∧ (dOf l).2 = 0 ∧ 200 ≤ (dOf l).1 ∧ (l.length = 12 ∨ (l.drop 12).head? = some 32) ∧ valueS (mk (l.drop 13)) = true) → R = ((0, []), 2) := fun h => by rw [← HR.out, stOf, if_neg h]
  have good : (12 ≤ l.length ∧ l.take 9 = ver9 ∧ (dOf l).2 = 0 ∧ 200 ≤ (dOf l).1 ∧ (l.length = 12 ∨ (l.drop 12).head? = some 32) ∧ valueS (mk (l.drop 13)) = true) → R = (((dOf l).1, l.drop 13), 0) := fun h => by rw [← HR.out, stOf, if_pos h]
  replace bad := Lib.hid bad
  replace good := Lib.hid good
  clear HR
  by_cases hp : l.take 9 = ver9
  · have hp' : l.take ver9.length = ver9 := hp
    rw [decide_eq_true hp', if_pos rfl, show ver9.length = 9 from rfl] at d0
    obtain ⟨rest, hrest⟩ : ∃ rest, l.drop 9 = rest := ⟨_, rfl⟩
    rw [hrest] at d0
    have hrl : rest.length = l.length - 9 := by rw [← hrest, List.length_drop]
    have hzr := mk_size rest
    clear hp'
    by_cases c12 : l.length < 12
    · rw [bad.out (fun h => by omega)]
      have hlt3 : ((mk rest).size : Int) < 3 := by
        have : 9 ≤ l.length := by have := congrArg List.length hp; simp [ver9] at this; omega
        omega
      clear hp bad good hrest
      go_enter Tryd.func51, Tryd.ntmps51
      go_wp2_with (first
        | (go_at_call 81; first | (with_reducible refine (d0 _).mono ?_; rintro e w1' ⟨rfl, rfl⟩) | (with_reducible refine (d2 _).mono ?_; rintro e w1' ⟨rfl, rfl⟩))
        | (go_at_call 36; with_reducible refine (d1 _).mono ?_; rintro e w1 ⟨rfl, hb⟩; obtain ⟨c0, c1, f0, f1, n0, l0⟩ := two_of hb; replace hb := Lib.hid hb)
        | (go_at_call 29; with_reducible refine (d3 _).mono ?_; rintro e w2 ⟨rfl, hb2⟩; replace hb := hb.out.trans (hb2.mono hb.out.size); clear c0 c1 f0 f1 n0 l0 hb2; obtain ⟨c0, c1, f0, f1, n0, l0⟩ := two_of hb; replace hb := Lib.hid hb))
      (try simp only [Exit.inBlock, Exit.then])
      refine bodyPost_ret (v := .tuple #[stV _, .int .i64 _]) ?_ rfl ⟨rfl, ?_⟩
      · rw [results_cell_tmp rfl]; go_simp; rfl
      · (repeat' (first | exact Below.refl _ _ | exact Below.trans (Below.alloc (Below.refl _ _) (by simp) _) (hb.out.mono (by simp)) | refine Below.alloc ?_ (by first | (simp; done) | (simp; omega)) _ | refine Below.setCell ?_ (by first | (simp; done) | (simp; omega)) _ | refine below_drewN ?_))
    · have hge3 : ¬ ((mk rest).size : Int) < 3 := by omega
      have hge3' : (3 : Int) ≤ ((mk rest).size : Int) := by omega
      have hD : dOf l = numS 10 10 ((mk rest).extract 0 3) 599 := by rw [dOf, hrest, ext_take]; rfl
      have d1 := dec_any ((mk rest).extract 0 3) (by unfold maxLen; rw [ByteArray.size_extract]; omega) 599
      rw [← hD] at d1
      obtain ⟨c, hc⟩ : ∃ c, (dOf l).1 = c := ⟨_, rfl⟩
      obtain ⟨er, her⟩ : ∃ er, (dOf l).2 = er := ⟨_, rfl⟩
      rw [hc, her] at d1 bad
      rw [hc, her] at good
      have hX : ((mk rest).extract 3 (mk rest).size) = mk (l.drop 12) := by rw [ext_drop, data_mk, ← hrest, List.drop_drop]
      clear hD
      by_cases ce : er = 0
      · by_cases cc : c < 200
        · rw [bad.out (fun h => by omega)]
          by_cases c13 : l.length = 12
          · have he : ((mk rest).extract 3 (mk rest).size).toList.isEmpty = true := by rw [hX, Lib.toList_data, data_mk, List.drop_eq_nil_of_le (by omega)]; rfl
            clear hX bad good hp hrest hzr hrl hz
            go_enter Tryd.func51, Tryd.ntmps51
            go_wp2_with (first
              | (go_at_call 81; first | (with_reducible refine (d0 _).mono ?_; rintro e w1' ⟨rfl, rfl⟩) | (with_reducible refine (d2 _).mono ?_; rintro e w1' ⟨rfl, rfl⟩))
              | (go_at_call 36; with_reducible refine (d1 _).mono ?_; rintro e w1 ⟨rfl, hb⟩; obtain ⟨c0, c1, f0, f1, n0, l0⟩ := two_of hb; replace hb := Lib.hid hb)
              | (go_at_call 29; with_reducible refine (d3 _).mono ?_; rintro e w2 ⟨rfl, hb2⟩; replace hb := hb.out.trans (hb2.mono hb.out.size); clear c0 c1 f0 f1 n0 l0 hb2; obtain ⟨c0, c1, f0, f1, n0, l0⟩ := two_of hb; replace hb := Lib.hid hb))
            (try simp only [Exit.inBlock, Exit.then])
            refine bodyPost_ret (v := .tuple #[stV _, .int .i64 _]) ?_ rfl ⟨rfl, ?_⟩
            · rw [results_cell_tmp rfl]; go_simp; rfl
            · (repeat' (first | exact Below.refl _ _ | exact Below.trans (Below.alloc (Below.refl _ _) (by simp) _) (hb.out.mono (by simp)) | refine Below.alloc ?_ (by first | (simp; done) | (simp; omega)) _ | refine Below.setCell ?_ (by first | (simp; done) | (simp; omega)) _ | refine below_drewN ?_))
          · have he : ((mk rest).extract 3 (mk rest).size).toList.isEmpty = false := by
              rw [hX, Lib.toList_data, data_mk]
              cases hd : l.drop 12 with
              | nil => have := congrArg List.length hd; simp at this; omega
              | cons _ _ => rfl
            have d2 := cutP_any ((mk rest).extract 3 (mk rest).size) ⟨#[32]⟩
            generalize Lib.hasPrefix ((mk rest).extract 3 (mk rest).size).data.toList (⟨#[32]⟩ : ByteArray).data.toList = B at *
            generalize Lib.trimPrefix ((mk rest).extract 3 (mk rest).size).data.toList (⟨#[32]⟩ : ByteArray).data.toList = Y at *
            clear hX bad good hp hrest hzr hrl hz
            cases B
            · skip
              go_enter Tryd.func51, Tryd.ntmps51
              go_wp2_with (first
                | (go_at_call 81; first | (with_reducible refine (d0 _).mono ?_; rintro e w1' ⟨rfl, rfl⟩) | (with_reducible refine (d2 _).mono ?_; rintro e w1' ⟨rfl, rfl⟩))
                | (go_at_call 36; with_reducible refine (d1 _).mono ?_; rintro e w1 ⟨rfl, hb⟩; obtain ⟨c0, c1, f0, f1, n0, l0⟩ := two_of hb; replace hb := Lib.hid hb)
                | (go_at_call 29; with_reducible refine (d3 _).mono ?_; rintro e w2 ⟨rfl, hb2⟩; replace hb := hb.out.trans (hb2.mono hb.out.size); clear c0 c1 f0 f1 n0 l0 hb2; obtain ⟨c0, c1, f0, f1, n0, l0⟩ := two_of hb; replace hb := Lib.hid hb))
              (try simp only [Exit.inBlock, Exit.then])
              refine bodyPost_ret (v := .tuple #[stV _, .int .i64 _]) ?_ rfl ⟨rfl, ?_⟩
              · rw [results_cell_tmp rfl]; go_simp; rfl
              · (repeat' (first | exact Below.refl _ _ | exact Below.trans (Below.alloc (Below.refl _ _) (by simp) _) (hb.out.mono (by simp)) | refine Below.alloc ?_ (by first | (simp; done) | (simp; omega)) _ | refine Below.setCell ?_ (by first | (simp; done) | (simp; omega)) _ | refine below_drewN ?_))
            · skip
              go_enter Tryd.func51, Tryd.ntmps51
              go_wp2_with (first
                | (go_at_call 81; first | (with_reducible refine (d0 _).mono ?_; rintro e w1' ⟨rfl, rfl⟩) | (with_reducible refine (d2 _).mono ?_; rintro e w1' ⟨rfl, rfl⟩))
                | (go_at_call 36; with_reducible refine (d1 _).mono ?_; rintro e w1 ⟨rfl, hb⟩; obtain ⟨c0, c1, f0, f1, n0, l0⟩ := two_of hb; replace hb := Lib.hid hb)
                | (go_at_call 29; with_reducible refine (d3 _).mono ?_; rintro e w2 ⟨rfl, hb2⟩; replace hb := hb.out.trans (hb2.mono hb.out.size); clear c0 c1 f0 f1 n0 l0 hb2; obtain ⟨c0, c1, f0, f1, n0, l0⟩ := two_of hb; replace hb := Lib.hid hb))
              (try simp only [Exit.inBlock, Exit.then])
              refine bodyPost_ret (v := .tuple #[stV _, .int .i64 _]) ?_ rfl ⟨rfl, ?_⟩
              · rw [results_cell_tmp rfl]; go_simp; rfl
              · (repeat' (first | exact Below.refl _ _ | exact Below.trans (Below.alloc (Below.refl _ _) (by simp) _) (hb.out.mono (by simp)) | refine Below.alloc ?_ (by first | (simp; done) | (simp; omega)) _ | refine Below.setCell ?_ (by first | (simp; done) | (simp; omega)) _ | refine below_drewN ?_))
        · have cc' : ¬ c < 200 := cc
          by_cases c13 : l.length = 12
          · have he : ((mk rest).extract 3 (mk rest).size).toList.isEmpty = true := by rw [hX, Lib.toList_data, data_mk, List.drop_eq_nil_of_le (by omega)]; rfl
            have hXn : ((mk rest).extract 3 (mk rest).size) = mk (l.drop 13) := by rw [hX, List.drop_eq_nil_of_le (by omega), List.drop_eq_nil_of_le (by omega)]
            have hvn : valueS (mk (l.drop 13)) = true := by rw [List.drop_eq_nil_of_le (by omega)]; exact val_nil
            rw [good.out ⟨by omega, hp, ce, by omega, .inl c13, hvn⟩]
            have d3 := value_any ((mk rest).extract 3 (mk rest).size) (by unfold maxLen; rw [hX, mk_size, List.length_drop]; omega)
            rw [hXn, hvn] at d3
            rw [hXn] at he
            have hXg := hXn
            clear hX bad good hp hrest hzr hrl hz hvn
            go_enter Tryd.func51, Tryd.ntmps51
            go_wp2_with (first
              | (go_at_call 81; first | (with_reducible refine (d0 _).mono ?_; rintro e w1' ⟨rfl, rfl⟩) | (with_reducible refine (d2 _).mono ?_; rintro e w1' ⟨rfl, rfl⟩))
              | (go_at_call 36; with_reducible refine (d1 _).mono ?_; rintro e w1 ⟨rfl, hb⟩; obtain ⟨c0, c1, f0, f1, n0, l0⟩ := two_of hb; replace hb := Lib.hid hb)
              | (go_at_call 29; with_reducible refine (d3 _).mono ?_; rintro e w2 ⟨rfl, hb2⟩; replace hb := hb.out.trans (hb2.mono hb.out.size); clear c0 c1 f0 f1 n0 l0 hb2; obtain ⟨c0, c1, f0, f1, n0, l0⟩ := two_of hb; replace hb := Lib.hid hb))
            (try simp only [Exit.inBlock, Exit.then])
            refine bodyPost_ret (v := .tuple #[stV _, .int .i64 _]) ?_ rfl ⟨rfl, ?_⟩
            · rw [results_cell_tmp rfl]; go_simp; rfl
            · (repeat' (first | exact Below.refl _ _ | exact Below.trans (Below.alloc (Below.refl _ _) (by simp) _) (hb.out.mono (by simp)) | refine Below.alloc ?_ (by first | (simp; done) | (simp; omega)) _ | refine Below.setCell ?_ (by first | (simp; done) | (simp; omega)) _ | refine below_drewN ?_))
          · have he : ((mk rest).extract 3 (mk rest).size).toList.isEmpty = false := by
              rw [hX, Lib.toList_data, data_mk]
              cases hd : l.drop 12 with
              | nil => have := congrArg List.length hd; simp at this; omega
              | cons _ _ => rfl
            have d2 := cutP_any ((mk rest).extract 3 (mk rest).size) ⟨#[32]⟩
            rw [show ((mk rest).extract 3 (mk rest).size).data.toList = l.drop 12 by rw [hX]; rfl, show (⟨#[32]⟩ : ByteArray).data.toList = [32] from rfl, trimP, hasP, show ([32] : List UInt8).length = 1 from rfl, List.drop_drop] at d2
            have hhd : (l.drop 12).take 1 = [32] ↔ (l.drop 12).head? = some 32 := by cases l.drop 12 <;> simp
            by_cases c32 : (l.drop 12).take 1 = [32]
            · rw [decide_eq_true c32, if_pos rfl] at d2
              have d3 := value_any (mk (l.drop (12 + 1))) (by unfold maxLen; rw [mk_size, List.length_drop]; omega)
              cases hV : valueS (mk (l.drop (12 + 1)))
              · rw [hV] at d3
                rw [bad.out (fun h => by have := h.2.2.2.2.2; rw [show l.drop 13 = l.drop (12 + 1) from rfl, hV] at this; cases this)]
                clear hX bad good hp hrest hzr hrl hz hhd c32 hV
                generalize l.drop (12 + 1) = Y at *
                go_enter Tryd.func51, Tryd.ntmps51
                go_wp2_with (first
                  | (go_at_call 81; first | (with_reducible refine (d0 _).mono ?_; rintro e w1' ⟨rfl, rfl⟩) | (with_reducible refine (d2 _).mono ?_; rintro e w1' ⟨rfl, rfl⟩))
                  | (go_at_call 36; with_reducible refine (d1 _).mono ?_; rintro e w1 ⟨rfl, hb⟩; obtain ⟨c0, c1, f0, f1, n0, l0⟩ := two_of hb; replace hb := Lib.hid hb)
                  | (go_at_call 29; with_reducible refine (d3 _).mono ?_; rintro e w2 ⟨rfl, hb2⟩; replace hb := hb.out.trans (hb2.mono hb.out.size); clear c0 c1 f0 f1 n0 l0 hb2; obtain ⟨c0, c1, f0, f1, n0, l0⟩ := two_of hb; replace hb := Lib.hid hb))
                (try simp only [Exit.inBlock, Exit.then])
                refine bodyPost_ret (v := .tuple #[stV _, .int .i64 _]) ?_ rfl ⟨rfl, ?_⟩
                · rw [results_cell_tmp rfl]; go_simp; rfl
                · (repeat' (first | exact Below.refl _ _ | exact Below.trans (Below.alloc (Below.refl _ _) (by simp) _) (hb.out.mono (by simp)) | refine Below.alloc ?_ (by first | (simp; done) | (simp; omega)) _ | refine Below.setCell ?_ (by first | (simp; done) | (simp; omega)) _ | refine below_drewN ?_))
              · rw [hV] at d3
                rw [good.out ⟨by omega, hp, ce, by omega, .inr (hhd.1 c32), hV⟩, show l.drop 13 = l.drop (12 + 1) from rfl]
                clear hX bad good hp hrest hzr hrl hz hhd c32 hV
                generalize l.drop (12 + 1) = Y at *
                go_enter Tryd.func51, Tryd.ntmps51
                go_wp2_with (first
                  | (go_at_call 81; first | (with_reducible refine (d0 _).mono ?_; rintro e w1' ⟨rfl, rfl⟩) | (with_reducible refine (d2 _).mono ?_; rintro e w1' ⟨rfl, rfl⟩))
                  | (go_at_call 36; with_reducible refine (d1 _).mono ?_; rintro e w1 ⟨rfl, hb⟩; obtain ⟨c0, c1, f0, f1, n0, l0⟩ := two_of hb; replace hb := Lib.hid hb)
                  | (go_at_call 29; with_reducible refine (d3 _).mono ?_; rintro e w2 ⟨rfl, hb2⟩; replace hb := hb.out.trans (hb2.mono hb.out.size); clear c0 c1 f0 f1 n0 l0 hb2; obtain ⟨c0, c1, f0, f1, n0, l0⟩ := two_of hb; replace hb := Lib.hid hb))
                (try simp only [Exit.inBlock, Exit.then])
                refine bodyPost_ret (v := .tuple #[stV _, .int .i64 _]) ?_ rfl ⟨rfl, ?_⟩
                · rw [results_cell_tmp rfl]; go_simp; rfl
                · (repeat' (first | exact Below.refl _ _ | exact Below.trans (Below.alloc (Below.refl _ _) (by simp) _) (hb.out.mono (by simp)) | refine Below.alloc ?_ (by first | (simp; done) | (simp; omega)) _ | refine Below.setCell ?_ (by first | (simp; done) | (simp; omega)) _ | refine below_drewN ?_))
            · rw [decide_eq_false c32, if_neg (by decide)] at d2
              rw [bad.out (fun h => h.2.2.2.2.1.elim (fun e => c13 e) (fun e => c32 (hhd.2 e)))]
              clear hX bad good hp hrest hzr hrl hz hhd c32
              generalize l.drop 12 = Y at *
              go_enter Tryd.func51, Tryd.ntmps51
              go_wp2_with (first
                | (go_at_call 81; first | (with_reducible refine (d0 _).mono ?_; rintro e w1' ⟨rfl, rfl⟩) | (with_reducible refine (d2 _).mono ?_; rintro e w1' ⟨rfl, rfl⟩))
                | (go_at_call 36; with_reducible refine (d1 _).mono ?_; rintro e w1 ⟨rfl, hb⟩; obtain ⟨c0, c1, f0, f1, n0, l0⟩ := two_of hb; replace hb := Lib.hid hb)
                | (go_at_call 29; with_reducible refine (d3 _).mono ?_; rintro e w2 ⟨rfl, hb2⟩; replace hb := hb.out.trans (hb2.mono hb.out.size); clear c0 c1 f0 f1 n0 l0 hb2; obtain ⟨c0, c1, f0, f1, n0, l0⟩ := two_of hb; replace hb := Lib.hid hb))
              (try simp only [Exit.inBlock, Exit.then])
              refine bodyPost_ret (v := .tuple #[stV _, .int .i64 _]) ?_ rfl ⟨rfl, ?_⟩
              · rw [results_cell_tmp rfl]; go_simp; rfl
              · (repeat' (first | exact Below.refl _ _ | exact Below.trans (Below.alloc (Below.refl _ _) (by simp) _) (hb.out.mono (by simp)) | refine Below.alloc ?_ (by first | (simp; done) | (simp; omega)) _ | refine Below.setCell ?_ (by first | (simp; done) | (simp; omega)) _ | refine below_drewN ?_))
      · rw [bad.out (fun h => ce h.2.2.1)]
        by_cases c13 : l.length = 12
        · have he : ((mk rest).extract 3 (mk rest).size).toList.isEmpty = true := by rw [hX, Lib.toList_data, data_mk, List.drop_eq_nil_of_le (by omega)]; rfl
          clear hX bad good hp hrest hzr hrl hz
          go_enter Tryd.func51, Tryd.ntmps51
          go_wp2_with (first
            | (go_at_call 81; first | (with_reducible refine (d0 _).mono ?_; rintro e w1' ⟨rfl, rfl⟩) | (with_reducible refine (d2 _).mono ?_; rintro e w1' ⟨rfl, rfl⟩))
            | (go_at_call 36; with_reducible refine (d1 _).mono ?_; rintro e w1 ⟨rfl, hb⟩; obtain ⟨c0, c1, f0, f1, n0, l0⟩ := two_of hb; replace hb := Lib.hid hb)
            | (go_at_call 29; with_reducible refine (d3 _).mono ?_; rintro e w2 ⟨rfl, hb2⟩; replace hb := hb.out.trans (hb2.mono hb.out.size); clear c0 c1 f0 f1 n0 l0 hb2; obtain ⟨c0, c1, f0, f1, n0, l0⟩ := two_of hb; replace hb := Lib.hid hb))
          (try simp only [Exit.inBlock, Exit.then])
          refine bodyPost_ret (v := .tuple #[stV _, .int .i64 _]) ?_ rfl ⟨rfl, ?_⟩
          · rw [results_cell_tmp rfl]; go_simp; rfl
          · (repeat' (first | exact Below.refl _ _ | exact Below.trans (Below.alloc (Below.refl _ _) (by simp) _) (hb.out.mono (by simp)) | refine Below.alloc ?_ (by first | (simp; done) | (simp; omega)) _ | refine Below.setCell ?_ (by first | (simp; done) | (simp; omega)) _ | refine below_drewN ?_))
        · have he : ((mk rest).extract 3 (mk rest).size).toList.isEmpty = false := by
            rw [hX, Lib.toList_data, data_mk]
            cases hd : l.drop 12 with
            | nil => have := congrArg List.length hd; simp at this; omega
            | cons _ _ => rfl
          have d2 := cutP_any ((mk rest).extract 3 (mk rest).size) ⟨#[32]⟩
          generalize Lib.hasPrefix ((mk rest).extract 3 (mk rest).size).data.toList (⟨#[32]⟩ : ByteArray).data.toList = B at *
          generalize Lib.trimPrefix ((mk rest).extract 3 (mk rest).size).data.toList (⟨#[32]⟩ : ByteArray).data.toList = Y at *
          clear hX bad good hp hrest hzr hrl hz
          go_enter Tryd.func51, Tryd.ntmps51
          go_wp2_with (first
            | (go_at_call 81; first | (with_reducible refine (d0 _).mono ?_; rintro e w1' ⟨rfl, rfl⟩) | (with_reducible refine (d2 _).mono ?_; rintro e w1' ⟨rfl, rfl⟩))
            | (go_at_call 36; with_reducible refine (d1 _).mono ?_; rintro e w1 ⟨rfl, hb⟩; obtain ⟨c0, c1, f0, f1, n0, l0⟩ := two_of hb; replace hb := Lib.hid hb)
            | (go_at_call 29; with_reducible refine (d3 _).mono ?_; rintro e w2 ⟨rfl, hb2⟩; replace hb := hb.out.trans (hb2.mono hb.out.size); clear c0 c1 f0 f1 n0 l0 hb2; obtain ⟨c0, c1, f0, f1, n0, l0⟩ := two_of hb; replace hb := Lib.hid hb))
          (try simp only [Exit.inBlock, Exit.then])
          refine bodyPost_ret (v := .tuple #[stV _, .int .i64 _]) ?_ rfl ⟨rfl, ?_⟩
          · rw [results_cell_tmp rfl]; go_simp; rfl
          · (repeat' (first | exact Below.refl _ _ | exact Below.trans (Below.alloc (Below.refl _ _) (by simp) _) (hb.out.mono (by simp)) | refine Below.alloc ?_ (by first | (simp; done) | (simp; omega)) _ | refine Below.setCell ?_ (by first | (simp; done) | (simp; omega)) _ | refine below_drewN ?_))
  · have hp' : ¬ l.take ver9.length = ver9 := hp
    rw [decide_eq_false hp', if_neg (by decide)] at d0
    rw [bad.out (fun h => hp h.2.1)]
    clear hp hp' bad good
    go_enter Tryd.func51, Tryd.ntmps51
    go_wp2_with (first
      | (go_at_call 81; first | (with_reducible refine (d0 _).mono ?_; rintro e w1' ⟨rfl, rfl⟩) | (with_reducible refine (d2 _).mono ?_; rintro e w1' ⟨rfl, rfl⟩))
      | (go_at_call 36; with_reducible refine (d1 _).mono ?_; rintro e w1 ⟨rfl, hb⟩; obtain ⟨c0, c1, f0, f1, n0, l0⟩ := two_of hb; replace hb := Lib.hid hb)
      | (go_at_call 29; with_reducible refine (d3 _).mono ?_; rintro e w2 ⟨rfl, hb2⟩; replace hb := hb.out.trans (hb2.mono hb.out.size); clear c0 c1 f0 f1 n0 l0 hb2; obtain ⟨c0, c1, f0, f1, n0, l0⟩ := two_of hb; replace hb := Lib.hid hb))
    (try simp only [Exit.inBlock, Exit.then])
    refine bodyPost_ret (v := .tuple #[stV _, .int .i64 _]) ?_ rfl ⟨rfl, ?_⟩
    · rw [results_cell_tmp rfl]; go_simp; rfl
    · (repeat' (first | exact Below.refl _ _ | exact Below.trans (Below.alloc (Below.refl _ _) (by simp) _) (hb.out.mono (by simp)) | refine Below.alloc ?_ (by first | (simp; done) | (simp; omega)) _ | refine Below.setCell ?_ (by first | (simp; done) | (simp; omega)) _ | refine below_drewN ?_))
end Go.Proofs.YtkbjklnkeammiaaDoor.Oct
