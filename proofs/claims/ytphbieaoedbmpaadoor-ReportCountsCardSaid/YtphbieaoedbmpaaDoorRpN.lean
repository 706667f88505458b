/- The law of ReportCounts. -/
import Derived.Test.YtphbieaoedbmpaaDoorRpM
namespace Go.Proofs.YtphbieaoedbmpaaDoor.Rp
open Go.RowKit Go.Maps Go.Sort Go.Shelf Go.Proofs.YtphbieaoedbmpaaDoor.Oct
set_option linter.unusedVariables false
theorem OwnStrs.strs' {w : World} {base : Nat} {v : Value} {xs : List (List UInt8)} (h : OwnStrs w base v xs) : Strs w v xs := own_strs h
set_option maxRecDepth 100000 in
set_option maxHeartbeats 4000000 in
theorem counts_law (xs : List Nt) (kd : Int) (nm : List UInt8) (v : Value) (w : World) (hv : Nts ntR w v xs) (he : WEnv w) (hN : xs.length ≤ 140737488355328)
    (hK : ∀ x ∈ xs, (Lit.int .i64 x.kind).wf = true ∧ x.now ≤ 9223372036854775807 ∧ x.conn ≤ 9223372036854775807 ∧ x.kind ≤ 9223372036854775807) (hkd : (Lit.int .i64 kd).wf = true) :
    Calls Tryd.prog 3 #[v, .int .i64 kd, .string (mk nm)] w fun e w' => e = .returned (.bool true) ∧ Below w.heap.size w w' := by
  have dA := Lib.hid (awake_any w he)
  have dN := Lib.hid (fun W (hb : Below w.heap.size w W) => noted_any xs v W (hv.below hb) hN (fun x hx => (hK x hx).1))
  have hE := Lib.hid (fun W (hb : Below w.heap.size w W) => he.below hb)
  have hys : ((xs.take 30).map cutNt).length ≤ 30 := by rw [List.length_map, List.length_take]; omega
  have hO : ∀ y ∈ (xs.take 30).map cutNt, Ok y := fun y hy => by
    obtain ⟨z, hz, rfl⟩ := List.mem_map.1 hy
    obtain ⟨_, a1, a2, a3⟩ := hK z (List.mem_of_mem_take hz)
    exact ⟨a1, a3, a2, by show (z.name.take 12).length ≤ 1000; rw [List.length_take]; omega, by show (z.text.take 30).length ≤ 1000; rw [List.length_take]; omega⟩
  have hn12 : (nm.take 12).length ≤ 1000 := by rw [List.length_take]; omega
  obtain ⟨A, c, rfl, hc, hr⟩ := hv
  generalize (xs.take 30).map cutNt = ys at *
  have hT2 : ∀ y ∈ ys, y.text.length ≤ 1000 := fun y hy => (hO y hy).2.2.2.2
  clear he hK hr
  go_enter Tryd.func3, Tryd.ntmps3
  go_wp2_with (first
    | (go_at_call 4; refine dA.out.mono ?_; rintro e w1 ⟨rfl, hb1⟩)
    | (go_at_call 5; refine (dN.out _ hb1).mono ?_; rintro e w2 ⟨rb, g0, ov, nv, kb, cb, DK, DC, rfl, hM⟩
       have hM0 := hM.rm
       have hO0 := OwnN.nts ntR_len hM.out
       obtain ⟨Ao, co, rfl, hco, hro⟩ := OwnN.nts ntR_len hM.out
       have hB0 := Below.refl w2.heap.size w2
       have hbel := Lib.hid (hb1.trans (hM.bel.mono hb1.size))
       have hok := Lib.hid hO)
    | (go_at_call 6; (with_reducible refine (cut12 nm _).mono ?_); rintro e w3 ⟨rfl, rfl⟩)
    | (go_at_call 7; refine (refCount_any ys kd _ _ hO0 (by omega) hT2).mono ?_; rintro e w3 ⟨rfl, hb3⟩; have hB3 := hB0.trans (hb3.mono hB0.size))
    | (go_at_call 8; refine (count_any (hM0.below hB3) kd hkd).mono ?_; rintro e w4 ⟨rfl, hb4⟩; have hB4 := hB3.trans (hb4.mono hB3.size))
    | (go_at_call 9; refine (bytes_any (hM0.below hB4) kd hkd).mono ?_; rintro e w5 ⟨rfl, hb5⟩; have hB5 := hB4.trans (hb5.mono hB4.size))
    | (go_at_call 10; refine (chosen_any (hM0.below hB5) (nm.take 12) hn12).mono ?_; rintro e w6 ⟨rfl, hb6⟩; have hB6 := hB5.trans (hb6.mono hB5.size))
    | (go_at_call 11; refine (refChosen_any ys (nm.take 12) _ _ (hO0.below hB6) (by omega)).mono ?_; rintro e w7 ⟨rfl, hb7⟩; have hB7 := hB6.trans (hb7.mono hB6.size))
    | (go_at_call 12; refine (word_any kd _ (hE.out _ (hbel.out.trans (hB7.mono (hbel.out.size))))).mono ?_; rintro e w7' ⟨rfl, rfl⟩)
    | (go_at_call 13; refine (refWord_any kd _).mono ?_; rintro e w8 ⟨rfl, hb8⟩; have hB8 := hB7.trans (hb8.mono hB7.size))
    | (go_at_call 15; refine (names_any (hM0.below hB8) (by omega)).mono ?_; rintro e w9 ⟨u9, rfl, hu9, hb9⟩; have hB9 := hB8.trans (hb9.mono hB8.size))
    | (go_at_call 16; refine (refNames_any ys _ _ (hO0.below hB9) (by omega)).mono ?_; rintro e w10 ⟨u10, rfl, hu10, hb10⟩; have hB10 := hB9.trans (hb10.mono hB9.size))
    | (go_at_call 14; refine (same_any (namesN ys) (namesN ys) _ _ _ (strs_below (own_strs hu9) hb10) (own_strs hu10) (by have := names_len ys; omega)).mono ?_; rw [decide_eq_true rfl]; rintro e w11 ⟨rfl, hb11⟩; have hB11 := hB10.trans (hb11.mono hB10.size))
    | (go_at_call 17; refine (lines_any (hM0.below hB11) (hE.out _ (hbel.out.trans (hB11.mono (hbel.out.size)))) (by omega) hok.out).mono ?_; rintro e w12 ⟨u12, rfl, hu12, hb12⟩; have hB12 := hB11.trans (hb12.mono hB11.size)
       obtain ⟨A12, c12, rfl, hc12, hr12⟩ := own_strs hu12))
  have hbW := Lib.hid (hbel.out.trans (hB12.mono hbel.out.size))
  clear dA dN hE hM hM0 hO0 hB0 hB3 hB4 hB5 hB6 hB7 hB8 hB9 hB10 hB11 hb1 hb3 hb4 hb5 hb6 hb7 hb8 hb9 hb10 hb11 hb12 hu9 hu10 hu12 hbel
  rw [List.length_map] at hr12 hc12
  go_loopw [76] (fun iv wr => ∃ k : Nat, k ≤ ys.length ∧ iv = .int .i64 k ∧ Below w12.heap.size w12 wr) (fun iv _ => ys.length - (intOf iv).toNat)
  case atStart => exact ⟨0, Nat.zero_le _, rfl, Below.refl _ _⟩
  case round =>
    obtain ⟨k, hk, rfl, hb⟩ := hrel
    have hgw := hb.size
    by_cases c1 : k < ys.length
    · obtain ⟨b, o, rfl, hlt, hx⟩ := hro (by omega)
      obtain ⟨b2, o2, rfl, hlt2, hx2⟩ := hr12 (by omega)
      have hz12 := hB12.size
      have hx0 := hx k ys[k] (by simp [c1])
      have hl0 := (hb.cell (p := ⟨b2, o2 + k, none⟩) hlt2).trans (hx2 k (lineL ys[k]) (by rw [List.getElem?_map, List.getElem?_eq_getElem c1]; rfl))
      have hc0 := (hb.cell (p := ⟨b, o + k * 5, none⟩) (by show b < _; omega)).trans ((hB12.cell (p := ⟨b, o + k * 5, none⟩) hlt).trans (hx0 0 _ rfl))
      have hc1 := (hb.cell (p := ⟨b, o + k * 5 + 1, none⟩) (by show b < _; omega)).trans ((hB12.cell (p := ⟨b, o + k * 5 + 1, none⟩) hlt).trans (hx0 1 _ rfl))
      have hc2 := (hb.cell (p := ⟨b, o + k * 5 + 2, none⟩) (by show b < _; omega)).trans ((hB12.cell (p := ⟨b, o + k * 5 + 2, none⟩) hlt).trans (hx0 2 _ rfl))
      have hc3 := (hb.cell (p := ⟨b, o + k * 5 + 3, none⟩) (by show b < _; omega)).trans ((hB12.cell (p := ⟨b, o + k * 5 + 3, none⟩) hlt).trans (hx0 3 _ rfl))
      have hc4 := (hb.cell (p := ⟨b, o + k * 5 + 4, none⟩) (by show b < _; omega)).trans ((hB12.cell (p := ⟨b, o + k * 5 + 4, none⟩) hlt).trans (hx0 4 _ rfl))
      obtain ⟨a1, a2, a3, a4, a5⟩ := hok.out ys[k] (by simp)
      have dL := fun W => refLine_any ys[k] W a1 a2 a3 a4 a5
      generalize ys[k] = x at *
      clear hx0 hx hx2 a1 a2 a3 a4 a5
      go_wp2_with (go_at_call 18; refine (dL _).mono ?_; rintro e w13 ⟨rfl, hb13⟩; have hbb := Lib.hid hb13)
      go_roundw
      case rel => exact ⟨k + 1, by omega, by go_num, hb.trans (hbb.out.mono hgw)⟩
      case measure => simp [intOf]; omega
    · have hk : k = ys.length := by omega
      subst hk
      go_wp2
      go_ret
      exact ⟨rfl, hbW.out.trans (hb.mono hbW.out.size)⟩
end Go.Proofs.YtphbieaoedbmpaaDoor.Rp
