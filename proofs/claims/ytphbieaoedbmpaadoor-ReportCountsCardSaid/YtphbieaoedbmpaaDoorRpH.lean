/- A note's line: the document's (printed by genH.py). -/
import Derived.Test.YtphbieaoedbmpaaDoorRpG
namespace Go.Proofs.YtphbieaoedbmpaaDoor.Rp
open Go.RowKit Go.ChangeShapes Go.Proofs.YtphbieaoedbmpaaDoor.Oct
set_option linter.unusedVariables false
set_option linter.unusedSimpArgs false
theorem cat_lit (a b : List UInt8) (A B : ByteArray) (hA : A = mk a) (hB : B = mk b) (h : a.length + b.length ≤ 10000000) (W : World) : (Op.stringOp .add A B).run Tryd.prog W = .ok (.string (mk (a ++ b))) W := by
  subst hA hB
  rw [cat_run _ _ (by rw [mk_size, mk_size]; omega)]
  congr 2
set_option maxRecDepth 100000 in
set_option maxHeartbeats 8000000 in
theorem refLine_any (x : Nt) (w : World) (h1 : x.now ≤ 9223372036854775807) (h2 : x.kind ≤ 9223372036854775807) (h3 : x.conn ≤ 9223372036854775807) (hn : x.name.length ≤ 1000) (ht : x.text.length ≤ 1000) :
    Calls Tryd.prog 18 #[.agg #[.int .i64 x.now, .int .i64 x.kind, .int .i64 x.conn, .string (mk x.name), .string (mk x.text)]] w fun e w' => e = .returned (.string (mk (lineL x))) ∧ Below w.heap.size w w' := by
  obtain ⟨now, kd, cn, nm, tx⟩ := x
  simp only at h1 h2 h3 hn ht
  have z1 : ((mk tx).size : Int) = tx.length := by rw [mk_size]
  have dW := Lib.hid (fun W => refWord_any kd W)
  have d1 := Lib.hid (fun W => refPrint10 now h1 W)
  have d2 := Lib.hid (fun W => refPrint10 kd h2 W)
  have d3 := Lib.hid (fun W => refPrint10 cn h3 W)
  have d4 := Lib.hid (fun W => refPrint10 (tx.length : Int) (by omega) W)
  have s1 : (decL now).length ≤ 1000 := by have := decL_le now h1; omega
  have s2 : (kindL kd).length ≤ 1000 := by have := kindL_le kd h2; omega
  have s3 : (decL cn).length ≤ 1000 := by have := decL_le cn h3; omega
  have s4 : (nameL nm).length ≤ 1000 := by unfold nameL; split; exact (by decide); omega
  have s5 : (decL (tx.length : Int)).length ≤ 1000 := by have := decL_le (tx.length : Int) (by omega); omega
  have k1 := fun W => cat_lit (decL now) [32] (decS now) ⟨#[32]⟩ rfl rfl (by simp; omega) W
  have k2 := fun K hK W => cat_lit (decL now ++ [32]) (kindL kd) _ K rfl hK (by simp; omega) W
  have k3 := fun W => cat_lit (decL now ++ [32] ++ kindL kd) [32] _ ⟨#[32]⟩ rfl rfl (by simp; omega) W
  have k4 := fun W => cat_lit (decL now ++ [32] ++ kindL kd ++ [32]) (decL cn) _ (decS cn) rfl rfl (by simp; omega) W
  have k5 := fun W => cat_lit (decL now ++ [32] ++ kindL kd ++ [32] ++ decL cn) [32] _ ⟨#[32]⟩ rfl rfl (by simp; omega) W
  have k6 := fun K hK W => cat_lit (decL now ++ [32] ++ kindL kd ++ [32] ++ decL cn ++ [32]) (nameL nm) _ K rfl hK (by simp; omega) W
  have k7 := fun W => cat_lit (decL now ++ [32] ++ kindL kd ++ [32] ++ decL cn ++ [32] ++ nameL nm) [32] _ ⟨#[32]⟩ rfl rfl (by simp; omega) W
  have k8 := fun W => cat_lit (decL now ++ [32] ++ kindL kd ++ [32] ++ decL cn ++ [32] ++ nameL nm ++ [32]) (decL (tx.length : Int)) _ (decS (tx.length : Int)) rfl rfl (by simp; omega) W
  have hR : lineL ⟨now, kd, cn, nm, tx⟩ = decL now ++ [32] ++ kindL kd ++ [32] ++ decL cn ++ [32] ++ nameL nm ++ [32] ++ decL (tx.length : Int) := rfl
  rw [← hR] at k8
  have hK1 : wordK kd = [] → decS kd = mk (kindL kd) := fun h => by unfold kindL; rw [if_pos h]; rfl
  have hK2 : wordK kd ≠ [] → mk (wordK kd) = mk (kindL kd) := fun h => by unfold kindL; rw [if_neg h]
  have hN1 : nm = [] → (⟨#[45]⟩ : ByteArray) = mk (nameL nm) := fun h => by unfold nameL; rw [if_pos h]; rfl
  have hN2 : nm ≠ [] → mk nm = mk (nameL nm) := fun h => by unfold nameL; rw [if_neg h]
  generalize lineL ⟨now, kd, cn, nm, tx⟩ = R at *
  generalize decL now ++ [32] ++ kindL kd ++ [32] ++ decL cn ++ [32] ++ nameL nm ++ [32] = a7 at *
  generalize decL now ++ [32] ++ kindL kd ++ [32] ++ decL cn ++ [32] ++ nameL nm = a6 at *
  generalize decL now ++ [32] ++ kindL kd ++ [32] ++ decL cn ++ [32] = a5 at *
  generalize decL now ++ [32] ++ kindL kd ++ [32] ++ decL cn = a4 at *
  generalize decL now ++ [32] ++ kindL kd ++ [32] = a3 at *
  generalize decL now ++ [32] ++ kindL kd = a2 at *
  generalize decL now ++ [32] = a1 at *
  have hw1 := str_none (wordK kd)
  have hn1 := str_none nm
  have hw2 : (mk (wordK kd)).toList.isEmpty = decide (wordK kd = []) := by rw [Lib.toList_data]; cases wordK kd <;> rfl
  have hn2 : (mk nm).toList.isEmpty = decide (nm = []) := by rw [Lib.toList_data]; cases nm <;> rfl
  have hB0 := (Below.refl w.heap.size w).alloc (Nat.le_refl _) (.cells #[.int .i64 now, .int .i64 kd, .int .i64 cn, .string (mk nm), .string (mk tx)] 42)
  have hq0 : Blk (w.alloc (.cells #[.int .i64 now, .int .i64 kd, .int .i64 cn, .string (mk nm), .string (mk tx)] 42)) w.heap.size #[.int .i64 now, .int .i64 kd, .int .i64 cn, .string (mk nm), .string (mk tx)] 42 := Blk.new _ _ _
  clear h1 h2 h3 s1 s2 s3 s4 s5 hn ht hR
  go_enter Tryd.func18, Tryd.ntmps18
  go_upto_region 1 with (fail)
  generalize w.alloc (.cells #[.int .i64 now, .int .i64 kd, .int .i64 cn, .string (mk nm), .string (mk tx)] 42) = w0 at *
  have hg : w.heap.size ≤ w0.heap.size := hB0.size
  have hql := hq0.lt
  generalize hqe0 : w.heap.size = q at *
  have hqe := Lib.hid hqe0
  clear hqe0
  have c1 : w0.cell? ⟨q, 1, none⟩ = some (.int .i64 kd) := hq0.cell rfl
  have hhB := Lib.hid hB0
  have hhq := Lib.hid hq0
  clear hB0 hq0
  by_cases k0 : wordK kd = []
  all_goals by_cases kn : nm = []
  · subst kn

    simp only [k0,  decide_true, decide_false] at hw1 hn1 hw2 hn2
    have kk2 := fun W => k2 _ (hK1 k0) W
    have kk6 := fun W => k6 _ (hN1 rfl) W
    clear k2 k6 hK1 hK2 hN1 hN2
    have e0 : w0.cell? ⟨q, 0, none⟩ = some (.int .i64 now) := hhq.out.cell rfl
    have e1 : w0.cell? ⟨q, 1, none⟩ = some (.int .i64 kd) := hhq.out.cell rfl
    have e2 : w0.cell? ⟨q, 2, none⟩ = some (.int .i64 cn) := hhq.out.cell rfl
    have e3 : w0.cell? ⟨q, 3, none⟩ = some (.string (mk [])) := hhq.out.cell rfl
    have e4 : w0.cell? ⟨q, 4, none⟩ = some (.string (mk tx)) := hhq.out.cell rfl
    have hq1 := hhq
    have hB1 := hhB
    go_wp2_with (first | (go_at_call 13; have hqq := hq1; (with_reducible refine (dW.out _).mono ?_); (rintro e wa ⟨rfl, hb⟩; replace hq1 : Hid (Blk wa q #[.int .i64 now, .int .i64 kd, .int .i64 cn, .string (mk []), .string (mk tx)] 42) := Lib.hid (hq1.out.below ⟨hb.os, hb.tape, hb.output, hb.size, hb.block⟩); replace e0 : wa.cell? ⟨q, 0, none⟩ = some (.int .i64 now) := hq1.out.cell rfl; replace e1 : wa.cell? ⟨q, 1, none⟩ = some (.int .i64 kd) := hq1.out.cell rfl; replace e2 : wa.cell? ⟨q, 2, none⟩ = some (.int .i64 cn) := hq1.out.cell rfl; replace e3 : wa.cell? ⟨q, 3, none⟩ = some (.string (mk [])) := hq1.out.cell rfl; replace e4 : wa.cell? ⟨q, 4, none⟩ = some (.string (mk tx)) := hq1.out.cell rfl; replace hB1 : Hid (Below q w wa) := Lib.hid (by first | exact hB1.out.trans (hb.mono (Nat.le_of_lt hqq.out.lt)) | exact hB1.out.drew.trans (hb.mono (Nat.le_of_lt hqq.out.lt))); clear hqq hb)) | (go_at_call 25; have hqq := hq1; (with_reducible refine (d2.out _).mono ?_); (rintro e wb ⟨rfl, hb⟩; replace hq1 : Hid (Blk wb q #[.int .i64 now, .int .i64 kd, .int .i64 cn, .string (mk []), .string (mk tx)] 42) := Lib.hid (hq1.out.below ⟨hb.os, hb.tape, hb.output, hb.size, hb.block⟩); replace e0 : wb.cell? ⟨q, 0, none⟩ = some (.int .i64 now) := hq1.out.cell rfl; replace e1 : wb.cell? ⟨q, 1, none⟩ = some (.int .i64 kd) := hq1.out.cell rfl; replace e2 : wb.cell? ⟨q, 2, none⟩ = some (.int .i64 cn) := hq1.out.cell rfl; replace e3 : wb.cell? ⟨q, 3, none⟩ = some (.string (mk [])) := hq1.out.cell rfl; replace e4 : wb.cell? ⟨q, 4, none⟩ = some (.string (mk tx)) := hq1.out.cell rfl; replace hB1 : Hid (Below q w wb) := Lib.hid (by first | exact hB1.out.trans (hb.mono (Nat.le_of_lt hqq.out.lt)) | exact hB1.out.drew.trans (hb.mono (Nat.le_of_lt hqq.out.lt))); clear hqq hb)))
    go_region_held (fun w' => w'.cell? ⟨q, 0, none⟩ = some (.int .i64 now) ∧ w'.cell? ⟨q, 1, none⟩ = some (.int .i64 kd) ∧ w'.cell? ⟨q, 2, none⟩ = some (.int .i64 cn) ∧ w'.cell? ⟨q, 3, none⟩ = some (.string (mk [])) ∧ w'.cell? ⟨q, 4, none⟩ = some (.string (mk tx))) (go_keep) (first
      | (go_at_call 25; have hqq := hq1; (with_reducible refine (d1.out _).mono ?_); (rintro e wc ⟨rfl, hb⟩; replace hq1 : Hid (Blk wc q #[.int .i64 now, .int .i64 kd, .int .i64 cn, .string (mk []), .string (mk tx)] 42) := Lib.hid (hq1.out.below ⟨hb.os, hb.tape, hb.output, hb.size, hb.block⟩); replace e0 : wc.cell? ⟨q, 0, none⟩ = some (.int .i64 now) := hq1.out.cell rfl; replace e1 : wc.cell? ⟨q, 1, none⟩ = some (.int .i64 kd) := hq1.out.cell rfl; replace e2 : wc.cell? ⟨q, 2, none⟩ = some (.int .i64 cn) := hq1.out.cell rfl; replace e3 : wc.cell? ⟨q, 3, none⟩ = some (.string (mk [])) := hq1.out.cell rfl; replace e4 : wc.cell? ⟨q, 4, none⟩ = some (.string (mk tx)) := hq1.out.cell rfl; replace hB1 : Hid (Below q w wc) := Lib.hid (by first | exact hB1.out.trans (hb.mono (Nat.le_of_lt hqq.out.lt)) | exact hB1.out.drew.trans (hb.mono (Nat.le_of_lt hqq.out.lt))); clear hqq hb))
      | (go_at_call 25; have hqq := hq1; (with_reducible refine (d3.out _).mono ?_); (rintro e wd ⟨rfl, hb⟩; replace hq1 : Hid (Blk wd q #[.int .i64 now, .int .i64 kd, .int .i64 cn, .string (mk []), .string (mk tx)] 42) := Lib.hid (hq1.out.below ⟨hb.os, hb.tape, hb.output, hb.size, hb.block⟩); replace e0 : wd.cell? ⟨q, 0, none⟩ = some (.int .i64 now) := hq1.out.cell rfl; replace e1 : wd.cell? ⟨q, 1, none⟩ = some (.int .i64 kd) := hq1.out.cell rfl; replace e2 : wd.cell? ⟨q, 2, none⟩ = some (.int .i64 cn) := hq1.out.cell rfl; replace e3 : wd.cell? ⟨q, 3, none⟩ = some (.string (mk [])) := hq1.out.cell rfl; replace e4 : wd.cell? ⟨q, 4, none⟩ = some (.string (mk tx)) := hq1.out.cell rfl; replace hB1 : Hid (Below q w wd) := Lib.hid (by first | exact hB1.out.trans (hb.mono (Nat.le_of_lt hqq.out.lt)) | exact hB1.out.drew.trans (hb.mono (Nat.le_of_lt hqq.out.lt))); clear hqq hb))
      | (go_at_call 25; have hqq := hq1; (with_reducible refine (d4.out _).mono ?_); (rintro e we ⟨rfl, hb⟩; replace hq1 : Hid (Blk we q #[.int .i64 now, .int .i64 kd, .int .i64 cn, .string (mk []), .string (mk tx)] 42) := Lib.hid (hq1.out.below ⟨hb.os, hb.tape, hb.output, hb.size, hb.block⟩); replace e0 : we.cell? ⟨q, 0, none⟩ = some (.int .i64 now) := hq1.out.cell rfl; replace e1 : we.cell? ⟨q, 1, none⟩ = some (.int .i64 kd) := hq1.out.cell rfl; replace e2 : we.cell? ⟨q, 2, none⟩ = some (.int .i64 cn) := hq1.out.cell rfl; replace e3 : we.cell? ⟨q, 3, none⟩ = some (.string (mk [])) := hq1.out.cell rfl; replace e4 : we.cell? ⟨q, 4, none⟩ = some (.string (mk tx)) := hq1.out.cell rfl; replace hB1 : Hid (Below q w we) := Lib.hid (by first | exact hB1.out.trans (hb.mono (Nat.le_of_lt hqq.out.lt)) | exact hB1.out.drew.trans (hb.mono (Nat.le_of_lt hqq.out.lt))); clear hqq hb)))
    all_goals go_wp2
    all_goals go_ret
    all_goals exact ⟨rfl, by first | exact hB1.out | (rw [hqe.out]; exact hB1.out) | (rw [hqe.out]; exact hB1.out.drew)⟩
  · simp only [k0, kn, decide_true, decide_false] at hw1 hn1 hw2 hn2
    have kk2 := fun W => k2 _ (hK1 k0) W
    have kk6 := fun W => k6 _ (hN2 kn) W
    clear k2 k6 hK1 hK2 hN1 hN2
    have e0 : w0.cell? ⟨q, 0, none⟩ = some (.int .i64 now) := hhq.out.cell rfl
    have e1 : w0.cell? ⟨q, 1, none⟩ = some (.int .i64 kd) := hhq.out.cell rfl
    have e2 : w0.cell? ⟨q, 2, none⟩ = some (.int .i64 cn) := hhq.out.cell rfl
    have e3 : w0.cell? ⟨q, 3, none⟩ = some (.string (mk nm)) := hhq.out.cell rfl
    have e4 : w0.cell? ⟨q, 4, none⟩ = some (.string (mk tx)) := hhq.out.cell rfl
    have hq1 := hhq
    have hB1 := hhB
    go_wp2_with (first | (go_at_call 13; have hqq := hq1; (with_reducible refine (dW.out _).mono ?_); (rintro e wa ⟨rfl, hb⟩; replace hq1 : Hid (Blk wa q #[.int .i64 now, .int .i64 kd, .int .i64 cn, .string (mk nm), .string (mk tx)] 42) := Lib.hid (hq1.out.below ⟨hb.os, hb.tape, hb.output, hb.size, hb.block⟩); replace e0 : wa.cell? ⟨q, 0, none⟩ = some (.int .i64 now) := hq1.out.cell rfl; replace e1 : wa.cell? ⟨q, 1, none⟩ = some (.int .i64 kd) := hq1.out.cell rfl; replace e2 : wa.cell? ⟨q, 2, none⟩ = some (.int .i64 cn) := hq1.out.cell rfl; replace e3 : wa.cell? ⟨q, 3, none⟩ = some (.string (mk nm)) := hq1.out.cell rfl; replace e4 : wa.cell? ⟨q, 4, none⟩ = some (.string (mk tx)) := hq1.out.cell rfl; replace hB1 : Hid (Below q w wa) := Lib.hid (by first | exact hB1.out.trans (hb.mono (Nat.le_of_lt hqq.out.lt)) | exact hB1.out.drew.trans (hb.mono (Nat.le_of_lt hqq.out.lt))); clear hqq hb)) | (go_at_call 25; have hqq := hq1; (with_reducible refine (d2.out _).mono ?_); (rintro e wb ⟨rfl, hb⟩; replace hq1 : Hid (Blk wb q #[.int .i64 now, .int .i64 kd, .int .i64 cn, .string (mk nm), .string (mk tx)] 42) := Lib.hid (hq1.out.below ⟨hb.os, hb.tape, hb.output, hb.size, hb.block⟩); replace e0 : wb.cell? ⟨q, 0, none⟩ = some (.int .i64 now) := hq1.out.cell rfl; replace e1 : wb.cell? ⟨q, 1, none⟩ = some (.int .i64 kd) := hq1.out.cell rfl; replace e2 : wb.cell? ⟨q, 2, none⟩ = some (.int .i64 cn) := hq1.out.cell rfl; replace e3 : wb.cell? ⟨q, 3, none⟩ = some (.string (mk nm)) := hq1.out.cell rfl; replace e4 : wb.cell? ⟨q, 4, none⟩ = some (.string (mk tx)) := hq1.out.cell rfl; replace hB1 : Hid (Below q w wb) := Lib.hid (by first | exact hB1.out.trans (hb.mono (Nat.le_of_lt hqq.out.lt)) | exact hB1.out.drew.trans (hb.mono (Nat.le_of_lt hqq.out.lt))); clear hqq hb)))
    go_region_held (fun w' => w'.cell? ⟨q, 0, none⟩ = some (.int .i64 now) ∧ w'.cell? ⟨q, 1, none⟩ = some (.int .i64 kd) ∧ w'.cell? ⟨q, 2, none⟩ = some (.int .i64 cn) ∧ w'.cell? ⟨q, 3, none⟩ = some (.string (mk nm)) ∧ w'.cell? ⟨q, 4, none⟩ = some (.string (mk tx))) (go_keep) (first
      | (go_at_call 25; have hqq := hq1; (with_reducible refine (d1.out _).mono ?_); (rintro e wc ⟨rfl, hb⟩; replace hq1 : Hid (Blk wc q #[.int .i64 now, .int .i64 kd, .int .i64 cn, .string (mk nm), .string (mk tx)] 42) := Lib.hid (hq1.out.below ⟨hb.os, hb.tape, hb.output, hb.size, hb.block⟩); replace e0 : wc.cell? ⟨q, 0, none⟩ = some (.int .i64 now) := hq1.out.cell rfl; replace e1 : wc.cell? ⟨q, 1, none⟩ = some (.int .i64 kd) := hq1.out.cell rfl; replace e2 : wc.cell? ⟨q, 2, none⟩ = some (.int .i64 cn) := hq1.out.cell rfl; replace e3 : wc.cell? ⟨q, 3, none⟩ = some (.string (mk nm)) := hq1.out.cell rfl; replace e4 : wc.cell? ⟨q, 4, none⟩ = some (.string (mk tx)) := hq1.out.cell rfl; replace hB1 : Hid (Below q w wc) := Lib.hid (by first | exact hB1.out.trans (hb.mono (Nat.le_of_lt hqq.out.lt)) | exact hB1.out.drew.trans (hb.mono (Nat.le_of_lt hqq.out.lt))); clear hqq hb))
      | (go_at_call 25; have hqq := hq1; (with_reducible refine (d3.out _).mono ?_); (rintro e wd ⟨rfl, hb⟩; replace hq1 : Hid (Blk wd q #[.int .i64 now, .int .i64 kd, .int .i64 cn, .string (mk nm), .string (mk tx)] 42) := Lib.hid (hq1.out.below ⟨hb.os, hb.tape, hb.output, hb.size, hb.block⟩); replace e0 : wd.cell? ⟨q, 0, none⟩ = some (.int .i64 now) := hq1.out.cell rfl; replace e1 : wd.cell? ⟨q, 1, none⟩ = some (.int .i64 kd) := hq1.out.cell rfl; replace e2 : wd.cell? ⟨q, 2, none⟩ = some (.int .i64 cn) := hq1.out.cell rfl; replace e3 : wd.cell? ⟨q, 3, none⟩ = some (.string (mk nm)) := hq1.out.cell rfl; replace e4 : wd.cell? ⟨q, 4, none⟩ = some (.string (mk tx)) := hq1.out.cell rfl; replace hB1 : Hid (Below q w wd) := Lib.hid (by first | exact hB1.out.trans (hb.mono (Nat.le_of_lt hqq.out.lt)) | exact hB1.out.drew.trans (hb.mono (Nat.le_of_lt hqq.out.lt))); clear hqq hb))
      | (go_at_call 25; have hqq := hq1; (with_reducible refine (d4.out _).mono ?_); (rintro e we ⟨rfl, hb⟩; replace hq1 : Hid (Blk we q #[.int .i64 now, .int .i64 kd, .int .i64 cn, .string (mk nm), .string (mk tx)] 42) := Lib.hid (hq1.out.below ⟨hb.os, hb.tape, hb.output, hb.size, hb.block⟩); replace e0 : we.cell? ⟨q, 0, none⟩ = some (.int .i64 now) := hq1.out.cell rfl; replace e1 : we.cell? ⟨q, 1, none⟩ = some (.int .i64 kd) := hq1.out.cell rfl; replace e2 : we.cell? ⟨q, 2, none⟩ = some (.int .i64 cn) := hq1.out.cell rfl; replace e3 : we.cell? ⟨q, 3, none⟩ = some (.string (mk nm)) := hq1.out.cell rfl; replace e4 : we.cell? ⟨q, 4, none⟩ = some (.string (mk tx)) := hq1.out.cell rfl; replace hB1 : Hid (Below q w we) := Lib.hid (by first | exact hB1.out.trans (hb.mono (Nat.le_of_lt hqq.out.lt)) | exact hB1.out.drew.trans (hb.mono (Nat.le_of_lt hqq.out.lt))); clear hqq hb)))
    all_goals go_wp2
    all_goals go_ret
    all_goals exact ⟨rfl, by first | exact hB1.out | (rw [hqe.out]; exact hB1.out) | (rw [hqe.out]; exact hB1.out.drew)⟩
  · subst kn

    simp only [k0,  decide_true, decide_false] at hw1 hn1 hw2 hn2
    have kk2 := fun W => k2 _ (hK2 k0) W
    have kk6 := fun W => k6 _ (hN1 rfl) W
    clear k2 k6 hK1 hK2 hN1 hN2
    have e0 : w0.cell? ⟨q, 0, none⟩ = some (.int .i64 now) := hhq.out.cell rfl
    have e1 : w0.cell? ⟨q, 1, none⟩ = some (.int .i64 kd) := hhq.out.cell rfl
    have e2 : w0.cell? ⟨q, 2, none⟩ = some (.int .i64 cn) := hhq.out.cell rfl
    have e3 : w0.cell? ⟨q, 3, none⟩ = some (.string (mk [])) := hhq.out.cell rfl
    have e4 : w0.cell? ⟨q, 4, none⟩ = some (.string (mk tx)) := hhq.out.cell rfl
    have hq1 := hhq
    have hB1 := hhB
    go_wp2_with (first | (go_at_call 13; have hqq := hq1; (with_reducible refine (dW.out _).mono ?_); (rintro e wa ⟨rfl, hb⟩; replace hq1 : Hid (Blk wa q #[.int .i64 now, .int .i64 kd, .int .i64 cn, .string (mk []), .string (mk tx)] 42) := Lib.hid (hq1.out.below ⟨hb.os, hb.tape, hb.output, hb.size, hb.block⟩); replace e0 : wa.cell? ⟨q, 0, none⟩ = some (.int .i64 now) := hq1.out.cell rfl; replace e1 : wa.cell? ⟨q, 1, none⟩ = some (.int .i64 kd) := hq1.out.cell rfl; replace e2 : wa.cell? ⟨q, 2, none⟩ = some (.int .i64 cn) := hq1.out.cell rfl; replace e3 : wa.cell? ⟨q, 3, none⟩ = some (.string (mk [])) := hq1.out.cell rfl; replace e4 : wa.cell? ⟨q, 4, none⟩ = some (.string (mk tx)) := hq1.out.cell rfl; replace hB1 : Hid (Below q w wa) := Lib.hid (by first | exact hB1.out.trans (hb.mono (Nat.le_of_lt hqq.out.lt)) | exact hB1.out.drew.trans (hb.mono (Nat.le_of_lt hqq.out.lt))); clear hqq hb)) | (go_at_call 25; have hqq := hq1; (with_reducible refine (d2.out _).mono ?_); (rintro e wb ⟨rfl, hb⟩; replace hq1 : Hid (Blk wb q #[.int .i64 now, .int .i64 kd, .int .i64 cn, .string (mk []), .string (mk tx)] 42) := Lib.hid (hq1.out.below ⟨hb.os, hb.tape, hb.output, hb.size, hb.block⟩); replace e0 : wb.cell? ⟨q, 0, none⟩ = some (.int .i64 now) := hq1.out.cell rfl; replace e1 : wb.cell? ⟨q, 1, none⟩ = some (.int .i64 kd) := hq1.out.cell rfl; replace e2 : wb.cell? ⟨q, 2, none⟩ = some (.int .i64 cn) := hq1.out.cell rfl; replace e3 : wb.cell? ⟨q, 3, none⟩ = some (.string (mk [])) := hq1.out.cell rfl; replace e4 : wb.cell? ⟨q, 4, none⟩ = some (.string (mk tx)) := hq1.out.cell rfl; replace hB1 : Hid (Below q w wb) := Lib.hid (by first | exact hB1.out.trans (hb.mono (Nat.le_of_lt hqq.out.lt)) | exact hB1.out.drew.trans (hb.mono (Nat.le_of_lt hqq.out.lt))); clear hqq hb)))
    go_region_held (fun w' => w'.cell? ⟨q, 0, none⟩ = some (.int .i64 now) ∧ w'.cell? ⟨q, 1, none⟩ = some (.int .i64 kd) ∧ w'.cell? ⟨q, 2, none⟩ = some (.int .i64 cn) ∧ w'.cell? ⟨q, 3, none⟩ = some (.string (mk [])) ∧ w'.cell? ⟨q, 4, none⟩ = some (.string (mk tx))) (go_keep) (first
      | (go_at_call 25; have hqq := hq1; (with_reducible refine (d1.out _).mono ?_); (rintro e wc ⟨rfl, hb⟩; replace hq1 : Hid (Blk wc q #[.int .i64 now, .int .i64 kd, .int .i64 cn, .string (mk []), .string (mk tx)] 42) := Lib.hid (hq1.out.below ⟨hb.os, hb.tape, hb.output, hb.size, hb.block⟩); replace e0 : wc.cell? ⟨q, 0, none⟩ = some (.int .i64 now) := hq1.out.cell rfl; replace e1 : wc.cell? ⟨q, 1, none⟩ = some (.int .i64 kd) := hq1.out.cell rfl; replace e2 : wc.cell? ⟨q, 2, none⟩ = some (.int .i64 cn) := hq1.out.cell rfl; replace e3 : wc.cell? ⟨q, 3, none⟩ = some (.string (mk [])) := hq1.out.cell rfl; replace e4 : wc.cell? ⟨q, 4, none⟩ = some (.string (mk tx)) := hq1.out.cell rfl; replace hB1 : Hid (Below q w wc) := Lib.hid (by first | exact hB1.out.trans (hb.mono (Nat.le_of_lt hqq.out.lt)) | exact hB1.out.drew.trans (hb.mono (Nat.le_of_lt hqq.out.lt))); clear hqq hb))
      | (go_at_call 25; have hqq := hq1; (with_reducible refine (d3.out _).mono ?_); (rintro e wd ⟨rfl, hb⟩; replace hq1 : Hid (Blk wd q #[.int .i64 now, .int .i64 kd, .int .i64 cn, .string (mk []), .string (mk tx)] 42) := Lib.hid (hq1.out.below ⟨hb.os, hb.tape, hb.output, hb.size, hb.block⟩); replace e0 : wd.cell? ⟨q, 0, none⟩ = some (.int .i64 now) := hq1.out.cell rfl; replace e1 : wd.cell? ⟨q, 1, none⟩ = some (.int .i64 kd) := hq1.out.cell rfl; replace e2 : wd.cell? ⟨q, 2, none⟩ = some (.int .i64 cn) := hq1.out.cell rfl; replace e3 : wd.cell? ⟨q, 3, none⟩ = some (.string (mk [])) := hq1.out.cell rfl; replace e4 : wd.cell? ⟨q, 4, none⟩ = some (.string (mk tx)) := hq1.out.cell rfl; replace hB1 : Hid (Below q w wd) := Lib.hid (by first | exact hB1.out.trans (hb.mono (Nat.le_of_lt hqq.out.lt)) | exact hB1.out.drew.trans (hb.mono (Nat.le_of_lt hqq.out.lt))); clear hqq hb))
      | (go_at_call 25; have hqq := hq1; (with_reducible refine (d4.out _).mono ?_); (rintro e we ⟨rfl, hb⟩; replace hq1 : Hid (Blk we q #[.int .i64 now, .int .i64 kd, .int .i64 cn, .string (mk []), .string (mk tx)] 42) := Lib.hid (hq1.out.below ⟨hb.os, hb.tape, hb.output, hb.size, hb.block⟩); replace e0 : we.cell? ⟨q, 0, none⟩ = some (.int .i64 now) := hq1.out.cell rfl; replace e1 : we.cell? ⟨q, 1, none⟩ = some (.int .i64 kd) := hq1.out.cell rfl; replace e2 : we.cell? ⟨q, 2, none⟩ = some (.int .i64 cn) := hq1.out.cell rfl; replace e3 : we.cell? ⟨q, 3, none⟩ = some (.string (mk [])) := hq1.out.cell rfl; replace e4 : we.cell? ⟨q, 4, none⟩ = some (.string (mk tx)) := hq1.out.cell rfl; replace hB1 : Hid (Below q w we) := Lib.hid (by first | exact hB1.out.trans (hb.mono (Nat.le_of_lt hqq.out.lt)) | exact hB1.out.drew.trans (hb.mono (Nat.le_of_lt hqq.out.lt))); clear hqq hb)))
    all_goals go_wp2
    all_goals go_ret
    all_goals exact ⟨rfl, by first | exact hB1.out | (rw [hqe.out]; exact hB1.out) | (rw [hqe.out]; exact hB1.out.drew)⟩
  · simp only [k0, kn, decide_true, decide_false] at hw1 hn1 hw2 hn2
    have kk2 := fun W => k2 _ (hK2 k0) W
    have kk6 := fun W => k6 _ (hN2 kn) W
    clear k2 k6 hK1 hK2 hN1 hN2
    have e0 : w0.cell? ⟨q, 0, none⟩ = some (.int .i64 now) := hhq.out.cell rfl
    have e1 : w0.cell? ⟨q, 1, none⟩ = some (.int .i64 kd) := hhq.out.cell rfl
    have e2 : w0.cell? ⟨q, 2, none⟩ = some (.int .i64 cn) := hhq.out.cell rfl
    have e3 : w0.cell? ⟨q, 3, none⟩ = some (.string (mk nm)) := hhq.out.cell rfl
    have e4 : w0.cell? ⟨q, 4, none⟩ = some (.string (mk tx)) := hhq.out.cell rfl
    have hq1 := hhq
    have hB1 := hhB
    go_wp2_with (first | (go_at_call 13; have hqq := hq1; (with_reducible refine (dW.out _).mono ?_); (rintro e wa ⟨rfl, hb⟩; replace hq1 : Hid (Blk wa q #[.int .i64 now, .int .i64 kd, .int .i64 cn, .string (mk nm), .string (mk tx)] 42) := Lib.hid (hq1.out.below ⟨hb.os, hb.tape, hb.output, hb.size, hb.block⟩); replace e0 : wa.cell? ⟨q, 0, none⟩ = some (.int .i64 now) := hq1.out.cell rfl; replace e1 : wa.cell? ⟨q, 1, none⟩ = some (.int .i64 kd) := hq1.out.cell rfl; replace e2 : wa.cell? ⟨q, 2, none⟩ = some (.int .i64 cn) := hq1.out.cell rfl; replace e3 : wa.cell? ⟨q, 3, none⟩ = some (.string (mk nm)) := hq1.out.cell rfl; replace e4 : wa.cell? ⟨q, 4, none⟩ = some (.string (mk tx)) := hq1.out.cell rfl; replace hB1 : Hid (Below q w wa) := Lib.hid (by first | exact hB1.out.trans (hb.mono (Nat.le_of_lt hqq.out.lt)) | exact hB1.out.drew.trans (hb.mono (Nat.le_of_lt hqq.out.lt))); clear hqq hb)) | (go_at_call 25; have hqq := hq1; (with_reducible refine (d2.out _).mono ?_); (rintro e wb ⟨rfl, hb⟩; replace hq1 : Hid (Blk wb q #[.int .i64 now, .int .i64 kd, .int .i64 cn, .string (mk nm), .string (mk tx)] 42) := Lib.hid (hq1.out.below ⟨hb.os, hb.tape, hb.output, hb.size, hb.block⟩); replace e0 : wb.cell? ⟨q, 0, none⟩ = some (.int .i64 now) := hq1.out.cell rfl; replace e1 : wb.cell? ⟨q, 1, none⟩ = some (.int .i64 kd) := hq1.out.cell rfl; replace e2 : wb.cell? ⟨q, 2, none⟩ = some (.int .i64 cn) := hq1.out.cell rfl; replace e3 : wb.cell? ⟨q, 3, none⟩ = some (.string (mk nm)) := hq1.out.cell rfl; replace e4 : wb.cell? ⟨q, 4, none⟩ = some (.string (mk tx)) := hq1.out.cell rfl; replace hB1 : Hid (Below q w wb) := Lib.hid (by first | exact hB1.out.trans (hb.mono (Nat.le_of_lt hqq.out.lt)) | exact hB1.out.drew.trans (hb.mono (Nat.le_of_lt hqq.out.lt))); clear hqq hb)))
    go_region_held (fun w' => w'.cell? ⟨q, 0, none⟩ = some (.int .i64 now) ∧ w'.cell? ⟨q, 1, none⟩ = some (.int .i64 kd) ∧ w'.cell? ⟨q, 2, none⟩ = some (.int .i64 cn) ∧ w'.cell? ⟨q, 3, none⟩ = some (.string (mk nm)) ∧ w'.cell? ⟨q, 4, none⟩ = some (.string (mk tx))) (go_keep) (first
      | (go_at_call 25; have hqq := hq1; (with_reducible refine (d1.out _).mono ?_); (rintro e wc ⟨rfl, hb⟩; replace hq1 : Hid (Blk wc q #[.int .i64 now, .int .i64 kd, .int .i64 cn, .string (mk nm), .string (mk tx)] 42) := Lib.hid (hq1.out.below ⟨hb.os, hb.tape, hb.output, hb.size, hb.block⟩); replace e0 : wc.cell? ⟨q, 0, none⟩ = some (.int .i64 now) := hq1.out.cell rfl; replace e1 : wc.cell? ⟨q, 1, none⟩ = some (.int .i64 kd) := hq1.out.cell rfl; replace e2 : wc.cell? ⟨q, 2, none⟩ = some (.int .i64 cn) := hq1.out.cell rfl; replace e3 : wc.cell? ⟨q, 3, none⟩ = some (.string (mk nm)) := hq1.out.cell rfl; replace e4 : wc.cell? ⟨q, 4, none⟩ = some (.string (mk tx)) := hq1.out.cell rfl; replace hB1 : Hid (Below q w wc) := Lib.hid (by first | exact hB1.out.trans (hb.mono (Nat.le_of_lt hqq.out.lt)) | exact hB1.out.drew.trans (hb.mono (Nat.le_of_lt hqq.out.lt))); clear hqq hb))
      | (go_at_call 25; have hqq := hq1; (with_reducible refine (d3.out _).mono ?_); (rintro e wd ⟨rfl, hb⟩; replace hq1 : Hid (Blk wd q #[.int .i64 now, .int .i64 kd, .int .i64 cn, .string (mk nm), .string (mk tx)] 42) := Lib.hid (hq1.out.below ⟨hb.os, hb.tape, hb.output, hb.size, hb.block⟩); replace e0 : wd.cell? ⟨q, 0, none⟩ = some (.int .i64 now) := hq1.out.cell rfl; replace e1 : wd.cell? ⟨q, 1, none⟩ = some (.int .i64 kd) := hq1.out.cell rfl; replace e2 : wd.cell? ⟨q, 2, none⟩ = some (.int .i64 cn) := hq1.out.cell rfl; replace e3 : wd.cell? ⟨q, 3, none⟩ = some (.string (mk nm)) := hq1.out.cell rfl; replace e4 : wd.cell? ⟨q, 4, none⟩ = some (.string (mk tx)) := hq1.out.cell rfl; replace hB1 : Hid (Below q w wd) := Lib.hid (by first | exact hB1.out.trans (hb.mono (Nat.le_of_lt hqq.out.lt)) | exact hB1.out.drew.trans (hb.mono (Nat.le_of_lt hqq.out.lt))); clear hqq hb))
      | (go_at_call 25; have hqq := hq1; (with_reducible refine (d4.out _).mono ?_); (rintro e we ⟨rfl, hb⟩; replace hq1 : Hid (Blk we q #[.int .i64 now, .int .i64 kd, .int .i64 cn, .string (mk nm), .string (mk tx)] 42) := Lib.hid (hq1.out.below ⟨hb.os, hb.tape, hb.output, hb.size, hb.block⟩); replace e0 : we.cell? ⟨q, 0, none⟩ = some (.int .i64 now) := hq1.out.cell rfl; replace e1 : we.cell? ⟨q, 1, none⟩ = some (.int .i64 kd) := hq1.out.cell rfl; replace e2 : we.cell? ⟨q, 2, none⟩ = some (.int .i64 cn) := hq1.out.cell rfl; replace e3 : we.cell? ⟨q, 3, none⟩ = some (.string (mk nm)) := hq1.out.cell rfl; replace e4 : we.cell? ⟨q, 4, none⟩ = some (.string (mk tx)) := hq1.out.cell rfl; replace hB1 : Hid (Below q w we) := Lib.hid (by first | exact hB1.out.trans (hb.mono (Nat.le_of_lt hqq.out.lt)) | exact hB1.out.drew.trans (hb.mono (Nat.le_of_lt hqq.out.lt))); clear hqq hb)))
    all_goals go_wp2
    all_goals go_ret
    all_goals exact ⟨rfl, by first | exact hB1.out | (rw [hqe.out]; exact hB1.out) | (rw [hqe.out]; exact hB1.out.drew)⟩
end Go.Proofs.YtphbieaoedbmpaaDoor.Rp
