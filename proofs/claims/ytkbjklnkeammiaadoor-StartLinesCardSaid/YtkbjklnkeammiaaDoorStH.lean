/- A status line: the document's ParseStatus. -/
import Derived.Test.YtkbjklnkeammiaaDoorStG
namespace Go.Proofs.YtkbjklnkeammiaaDoor.Oct
open Go.RowKit
set_option linter.unusedVariables false
set_option maxRecDepth 100000 in
set_option maxHeartbeats 4000000 in
theorem refParseStatus_any (s : ByteArray) (hs : s.size ≤ 100000) (w : World) :
    Calls Tryd.prog 52 #[.string s] w fun e w' => e = .returned (.tuple #[stV (stOf s.data.toList).1, .int .i64 (stOf s.data.toList).2]) ∧ Below w.heap.size w w' := by
  have hz : s.data.toList.length = s.size := len_sz s
  obtain ⟨R, hR⟩ : ∃ R, stOf s.data.toList = R := ⟨_, rfl⟩
  rw [hR]
  have HR := Lib.hid hR
  clear hR
  have hv9 : (s.extract 0 9).toList = s.data.toList.take 9 := by rw [Lib.toList_data, ext_take]; rfl
  have hD : dOf s.data.toList = numS 10 10 (s.extract 9 12) 599 := by rw [dOf, ← ext_mid s 9 3]
  have hE : s.extract 13 s.size = mk (s.data.toList.drop 13) := ext_drop s 13
  have d1 := refNumber10 (s.extract 9 12) (by unfold maxLen; rw [ByteArray.size_extract]; omega) 599
  rw [← hD] at d1
  have bad : ¬ (12 ≤ s.data.toList.length ∧ s.data.toList.take 9 = ver9 ∧ (dOf s.data.toList).2 = 0 ∧ 200 ≤ (dOf s.data.toList).1 ∧ (s.data.toList.length = 12 ∨ (s.data.toList.drop 12).head? = some 32) ∧ valueS (mk (s.data.toList.drop 13)) = true) → R = ((0, []), 2) := fun h => by rw [← HR.out, stOf, if_neg h]
  have good : (12 ≤ s.data.toList.length ∧ s.data.toList.take 9 = ver9 ∧ (dOf s.data.toList).2 = 0 ∧ 200 ≤ (dOf s.data.toList).1 ∧ (s.data.toList.length = 12 ∨ (s.data.toList.drop 12).head? = some 32) ∧ valueS (mk (s.data.toList.drop 13)) = true) → R = (((dOf s.data.toList).1, s.data.toList.drop 13), 0) := fun h => by rw [← HR.out, stOf, if_pos h]
  rw [hz] at bad good
  replace bad := Lib.hid bad
  replace good := Lib.hid good
  clear HR hD
  have hhd : ∀ h : 12 < s.size, ((s.data.toList.drop 12).head? = some 32 ↔ (s[12].toNat : Int) = 32) := by
    intro h
    rw [List.head?_drop, List.getElem?_eq_getElem (by rw [hz]; exact h), Option.some.injEq, Array.getElem_toList]
    constructor
    · intro e
      have : s[12] = 32 := e
      rw [this]; rfl
    · intro e
      apply UInt8.toNat_inj.1
      have : s[12].toNat = 32 := by omega
      exact this
  replace hhd := Lib.hid hhd
  clear hz
  obtain ⟨c, hc⟩ : ∃ c, (dOf s.data.toList).1 = c := ⟨_, rfl⟩
  obtain ⟨er, her⟩ : ∃ er, (dOf s.data.toList).2 = er := ⟨_, rfl⟩
  rw [hc, her] at d1 bad
  rw [hc, her] at good
  by_cases c12 : s.size < 12
  · rw [bad.out (fun h => by omega)]
    have h12 : (s.size : Int) < 12 := by omega
    clear bad good hv9 hE hc her c12 hhd
    go_enter Tryd.func52, Tryd.ntmps52
    go_wp2_with (first
      | (go_at_call 38; with_reducible refine (d1 _).mono ?_; rintro e w1' ⟨rfl, rfl⟩)
      | (go_at_call 30; with_reducible refine (d3 _).mono ?_; rintro e w1' ⟨rfl, rfl⟩))
    (try simp only [Exit.inBlock, Exit.then])
    refine bodyPost_ret (v := .tuple #[stV _, .int .i64 _]) ?_ rfl ⟨rfl, ?_⟩
    · rw [results_cell_tmp rfl]; go_simp; rfl
    · (repeat' (first | exact Below.refl _ _ | refine Below.alloc ?_ (by first | (simp; done) | (simp; omega)) _ | refine Below.setCell ?_ (by first | (simp; done) | (simp; omega)) _ | refine below_drewN ?_))
  · have h12 : ¬ (s.size : Int) < 12 := by omega
    by_cases hp : s.data.toList.take 9 = ver9
    · have hv : (s.extract 0 9).toList = [72, 84, 84, 80, 47, 49, 46, 49, 32] := by rw [hv9, hp]; rfl
      clear hv9
      by_cases c13 : s.size = 12
      · have h13 : ¬ (12 : Int) < s.size := by omega
        by_cases ce : er = 0
        · by_cases cc : c < 200
          · rw [bad.out (fun h => by omega)]
            clear bad good hE hp hhd hc her c12
            go_enter Tryd.func52, Tryd.ntmps52
            go_wp2_with (first
              | (go_at_call 38; with_reducible refine (d1 _).mono ?_; rintro e w1' ⟨rfl, rfl⟩)
              | (go_at_call 30; with_reducible refine (d3 _).mono ?_; rintro e w1' ⟨rfl, rfl⟩))
            (try simp only [Exit.inBlock, Exit.then])
            refine bodyPost_ret (v := .tuple #[stV _, .int .i64 _]) ?_ rfl ⟨rfl, ?_⟩
            · rw [results_cell_tmp rfl]; go_simp; rfl
            · (repeat' (first | exact Below.refl _ _ | refine Below.alloc ?_ (by first | (simp; done) | (simp; omega)) _ | refine Below.setCell ?_ (by first | (simp; done) | (simp; omega)) _ | refine below_drewN ?_))
          · have hvn : valueS (mk (s.data.toList.drop 13)) = true := by rw [List.drop_eq_nil_of_le (by rw [len_sz]; omega)]; exact val_nil
            have e13 : s.data.toList.drop 13 = [] := List.drop_eq_nil_of_le (by rw [len_sz]; omega)
            rw [good.out ⟨by omega, hp, ce, by omega, .inl c13, hvn⟩, e13]
            have d3 := refValue_any ⟨#[]⟩ (by decide)
            rw [show valueS ⟨#[]⟩ = true from val_nil] at d3
            clear bad good hE hp hhd hc her hvn e13 c12
            go_enter Tryd.func52, Tryd.ntmps52
            go_wp2_with (first
              | (go_at_call 38; with_reducible refine (d1 _).mono ?_; rintro e w1' ⟨rfl, rfl⟩)
              | (go_at_call 30; with_reducible refine (d3 _).mono ?_; rintro e w1' ⟨rfl, rfl⟩))
            (try simp only [Exit.inBlock, Exit.then])
            refine bodyPost_ret (v := .tuple #[stV _, .int .i64 _]) ?_ rfl ⟨rfl, ?_⟩
            · rw [results_cell_tmp rfl]; go_simp; rfl
            · (repeat' (first | exact Below.refl _ _ | refine Below.alloc ?_ (by first | (simp; done) | (simp; omega)) _ | refine Below.setCell ?_ (by first | (simp; done) | (simp; omega)) _ | refine below_drewN ?_))
        · rw [bad.out (fun h => ce h.2.2.1)]
          clear bad good hE hp hhd hc her c12
          go_enter Tryd.func52, Tryd.ntmps52
          go_wp2_with (first
            | (go_at_call 38; with_reducible refine (d1 _).mono ?_; rintro e w1' ⟨rfl, rfl⟩)
            | (go_at_call 30; with_reducible refine (d3 _).mono ?_; rintro e w1' ⟨rfl, rfl⟩))
          (try simp only [Exit.inBlock, Exit.then])
          refine bodyPost_ret (v := .tuple #[stV _, .int .i64 _]) ?_ rfl ⟨rfl, ?_⟩
          · rw [results_cell_tmp rfl]; go_simp; rfl
          · (repeat' (first | exact Below.refl _ _ | refine Below.alloc ?_ (by first | (simp; done) | (simp; omega)) _ | refine Below.setCell ?_ (by first | (simp; done) | (simp; omega)) _ | refine below_drewN ?_))
      · have h13 : (12 : Int) < s.size := by omega
        have l13 : 12 < s.size := by omega
        have hb12 : (s[12].toNat : Int) < 256 := by have := s[12].toNat_lt; omega
        by_cases c32 : (s[12].toNat : Int) = 32
        · by_cases ce : er = 0
          · by_cases cc : c < 200
            · rw [bad.out (fun h => by omega)]
              clear bad good hE hp hhd hc her c12
              go_enter Tryd.func52, Tryd.ntmps52
              go_wp2_with (first
                | (go_at_call 38; with_reducible refine (d1 _).mono ?_; rintro e w1' ⟨rfl, rfl⟩)
                | (go_at_call 30; with_reducible refine (d3 _).mono ?_; rintro e w1' ⟨rfl, rfl⟩))
              (try simp only [Exit.inBlock, Exit.then])
              refine bodyPost_ret (v := .tuple #[stV _, .int .i64 _]) ?_ rfl ⟨rfl, ?_⟩
              · rw [results_cell_tmp rfl]; go_simp; rfl
              · (repeat' (first | exact Below.refl _ _ | refine Below.alloc ?_ (by first | (simp; done) | (simp; omega)) _ | refine Below.setCell ?_ (by first | (simp; done) | (simp; omega)) _ | refine below_drewN ?_))
            · have d3 := refValue_any (s.extract 13 s.size) (by unfold maxLen; rw [ByteArray.size_extract]; omega)
              cases hV : valueS (s.extract 13 s.size)
              · rw [hV] at d3
                rw [hE] at hV
                rw [bad.out (fun h => by rw [hV] at h; cases h.2.2.2.2.2)]
                clear bad good hp hhd hc her hV hE c12
                go_enter Tryd.func52, Tryd.ntmps52
                go_wp2_with (first
                  | (go_at_call 38; with_reducible refine (d1 _).mono ?_; rintro e w1' ⟨rfl, rfl⟩)
                  | (go_at_call 30; with_reducible refine (d3 _).mono ?_; rintro e w1' ⟨rfl, rfl⟩))
                (try simp only [Exit.inBlock, Exit.then])
                refine bodyPost_ret (v := .tuple #[stV _, .int .i64 _]) ?_ rfl ⟨rfl, ?_⟩
                · rw [results_cell_tmp rfl]; go_simp; rfl
                · (repeat' (first | exact Below.refl _ _ | refine Below.alloc ?_ (by first | (simp; done) | (simp; omega)) _ | refine Below.setCell ?_ (by first | (simp; done) | (simp; omega)) _ | refine below_drewN ?_))
              · rw [hV] at d3
                rw [hE] at hV
                rw [good.out ⟨by omega, hp, ce, by omega, .inr ((hhd.out l13).2 c32), hV⟩]
                have hE2 := Lib.hid hE
                clear bad good hp hhd hc her hV c12 hE
                go_enter Tryd.func52, Tryd.ntmps52
                go_wp2_with (first
                  | (go_at_call 38; with_reducible refine (d1 _).mono ?_; rintro e w1' ⟨rfl, rfl⟩)
                  | (go_at_call 30; with_reducible refine (d3 _).mono ?_; rintro e w1' ⟨rfl, rfl⟩))
                (try simp only [Exit.inBlock, Exit.then])
                refine bodyPost_ret (v := .tuple #[stV _, .int .i64 _]) ?_ rfl ⟨rfl, ?_⟩
                · rw [results_cell_tmp rfl]; go_simp; first | rfl | (rw [hE2.out]; rfl)
                · (repeat' (first | exact Below.refl _ _ | refine Below.alloc ?_ (by first | (simp; done) | (simp; omega)) _ | refine Below.setCell ?_ (by first | (simp; done) | (simp; omega)) _ | refine below_drewN ?_))
          · rw [bad.out (fun h => ce h.2.2.1)]
            clear bad good hE hp hhd hc her c12
            go_enter Tryd.func52, Tryd.ntmps52
            go_wp2_with (first
              | (go_at_call 38; with_reducible refine (d1 _).mono ?_; rintro e w1' ⟨rfl, rfl⟩)
              | (go_at_call 30; with_reducible refine (d3 _).mono ?_; rintro e w1' ⟨rfl, rfl⟩))
            (try simp only [Exit.inBlock, Exit.then])
            refine bodyPost_ret (v := .tuple #[stV _, .int .i64 _]) ?_ rfl ⟨rfl, ?_⟩
            · rw [results_cell_tmp rfl]; go_simp; rfl
            · (repeat' (first | exact Below.refl _ _ | refine Below.alloc ?_ (by first | (simp; done) | (simp; omega)) _ | refine Below.setCell ?_ (by first | (simp; done) | (simp; omega)) _ | refine below_drewN ?_))
        · rw [bad.out (fun h => h.2.2.2.2.1.elim (fun e => c13 e) (fun e => c32 ((hhd.out l13).1 e)))]
          clear bad good hE hp hhd hc her c12
          go_enter Tryd.func52, Tryd.ntmps52
          go_wp2_with (first
            | (go_at_call 38; with_reducible refine (d1 _).mono ?_; rintro e w1' ⟨rfl, rfl⟩)
            | (go_at_call 30; with_reducible refine (d3 _).mono ?_; rintro e w1' ⟨rfl, rfl⟩))
          (try simp only [Exit.inBlock, Exit.then])
          refine bodyPost_ret (v := .tuple #[stV _, .int .i64 _]) ?_ rfl ⟨rfl, ?_⟩
          · rw [results_cell_tmp rfl]; go_simp; rfl
          · (repeat' (first | exact Below.refl _ _ | refine Below.alloc ?_ (by first | (simp; done) | (simp; omega)) _ | refine Below.setCell ?_ (by first | (simp; done) | (simp; omega)) _ | refine below_drewN ?_))
    · rw [bad.out (fun h => hp h.2.1)]
      have hv : ((s.extract 0 9).toList == [72, 84, 84, 80, 47, 49, 46, 49, 32]) = false := by rw [hv9]; simpa [ver9] using hp
      clear bad good hE hp hv9 hhd hc her c12
      go_enter Tryd.func52, Tryd.ntmps52
      go_wp2_with (first
        | (go_at_call 38; with_reducible refine (d1 _).mono ?_; rintro e w1' ⟨rfl, rfl⟩)
        | (go_at_call 30; with_reducible refine (d3 _).mono ?_; rintro e w1' ⟨rfl, rfl⟩))
      (try simp only [Exit.inBlock, Exit.then])
      refine bodyPost_ret (v := .tuple #[stV _, .int .i64 _]) ?_ rfl ⟨rfl, ?_⟩
      · rw [results_cell_tmp rfl]; go_simp; rfl
      · (repeat' (first | exact Below.refl _ _ | refine Below.alloc ?_ (by first | (simp; done) | (simp; omega)) _ | refine Below.setCell ?_ (by first | (simp; done) | (simp; omega)) _ | refine below_drewN ?_))
end Go.Proofs.YtkbjklnkeammiaaDoor.Oct
