/- A note's line: the program's. -/
import Derived.Test.YtphbieaoedbmpaaDoorRpF
import Derived.Deep.RegionHeld
namespace Go.Proofs.YtphbieaoedbmpaaDoor.Rp
open Go.RowKit Go.ChangeShapes Go.Proofs.YtphbieaoedbmpaaDoor.Oct
set_option linter.unusedVariables false
def kindL (k : Int) : List UInt8 := if wordK k = [] then decL k else wordK k
def nameL (n : List UInt8) : List UInt8 := if n = [] then [45] else n
def lineL (x : Nt) : List UInt8 := decL x.now ++ [32] ++ kindL x.kind ++ [32] ++ decL x.conn ++ [32] ++ nameL x.name ++ [32] ++ decL (x.text.length : Int)
theorem nDig_le : ∀ (k u : Nat), u < 10 ^ (k + 1) → Lib.nDigits u ≤ k + 1
  | 0, u, h => by rw [Lib.nDigits_small (by simpa using h)]; omega
  | k + 1, u, h => by
    by_cases h1 : u < 10
    · rw [Lib.nDigits_small h1]; omega
    · rw [Lib.nDigits_big h1]
      have := nDig_le k (u / 10) (Nat.div_lt_of_lt_mul (by rw [Nat.pow_succ, Nat.mul_comm] at h; exact h))
      omega
theorem decL_le (n : Int) (hn : n ≤ 9223372036854775807) : (decL n).length ≤ 20 := by
  unfold decL
  rw [Lib.decDigits_length]
  exact nDig_le 19 _ (by omega)
theorem wordK_le (k : Int) : (wordK k).length ≤ 20 := by
  unfold wordK
  split
  · rw [List.getD_eq_getElem?_getD]
    by_cases h : k.toNat < 11
    · rw [List.getElem?_eq_getElem h]
      exact (show ∀ i : Fin 11, (wordL[i.val]'i.isLt).length ≤ 20 by decide) ⟨k.toNat, h⟩
    · rw [List.getElem?_eq_none (by show 11 ≤ k.toNat; omega)]; simp
  · simp
theorem kindL_le (k : Int) (hk : k ≤ 9223372036854775807) : (kindL k).length ≤ 20 := by
  unfold kindL
  split
  · exact decL_le k hk
  · exact wordK_le k
theorem line_join (x : Nt) : Lib.join [decL x.now, kindL x.kind, decL x.conn, nameL x.name, decL (x.text.length : Int)] [32] = lineL x := by
  unfold lineL
  simp [Lib.join, List.intercalate, List.intersperse]
theorem WEnv.dn {w : World} (h : WEnv w) (n : Nat) : WEnv (w.drewN n) := ⟨⟨h.pow⟩, h.words⟩
theorem WEnv.drew {w : World} (h : WEnv w) : WEnv w.drew := ⟨⟨h.pow⟩, h.words⟩
theorem join5 (a b c d e : List UInt8) (B : Nat) (T : TypeId) (fr : Nat × Nat) (W : World) (hB : W.heap[B]? = some (.cells #[.string (mk a), .string (mk b), .string (mk c), .string (mk d), .string (mk e)] T fr)) (hz : a.length ≤ 1000 ∧ b.length ≤ 1000 ∧ c.length ≤ 1000 ∧ d.length ≤ 1000 ∧ e.length ≤ 1000) :
    Calls Tryd.prog 31 #[.slice (some ⟨B, 0, none⟩) 5 5, .string ⟨#[32]⟩] W fun r w' => r = .returned (.string (mk (Lib.join [a, b, c, d, e] [32]))) ∧ Below W.heap.size W w' := by
  have := Tryd.strings_Join B 0 5 [mk a, mk b, mk c, mk d, mk e] ⟨#[32]⟩ W (by
    intro j x hj
    have hj5 : j < 5 := (List.getElem?_eq_some_iff.1 hj).1
    rw [Nat.zero_add, cell_of_row W B j _ _ _ hB]
    match j, hj5, hj with
    | 0, _, hj => cases hj; rfl
    | 1, _, hj => cases hj; rfl
    | 2, _, hj => cases hj; rfl
    | 3, _, hj => cases hj; rfl
    | 4, _, hj => cases hj; rfl) (Array.getElem?_eq_some_iff.1 hB).1 (by show 5 ≤ _; omega) (by show 5 ≤ 5; omega) (by
    obtain ⟨z1, z2, z3, z4, z5⟩ := hz
    simp [Lib.join, List.intercalate, List.intersperse, mk]
    omega)
  exact this
set_option maxRecDepth 100000 in
set_option maxHeartbeats 4000000 in
theorem line_any (x : Nt) (w : World) (he : WEnv w) (h1 : x.now ≤ 9223372036854775807) (h2 : x.kind ≤ 9223372036854775807) (h3 : x.conn ≤ 9223372036854775807) (hn : x.name.length ≤ 1000) (ht : x.text.length ≤ 1000) :
    Calls Tryd.prog 24 #[.agg #[.int .i64 x.kind, .int .i64 x.conn, .string (mk x.name), .string (mk x.text), .int .i64 x.now]] w fun e w' => e = .returned (.string (mk (lineL x))) ∧ Below w.heap.size w w' := by
  have hj := line_join x
  obtain ⟨now, kd, cn, nm, tx⟩ := x
  simp only at h1 h2 h3 hn ht hj
  have z1 : ((mk tx).size : Int) = tx.length := by rw [mk_size]
  have dW := Lib.hid (fun W (hW : WEnv W) => word_any kd W hW)
  have d1 := Lib.hid (fun W (hW : WEnv W) => digits_any now h1 W hW.toEnv)
  have d2 := Lib.hid (fun W (hW : WEnv W) => digits_any kd h2 W hW.toEnv)
  have d3 := Lib.hid (fun W (hW : WEnv W) => digits_any cn h3 W hW.toEnv)
  have d4 := Lib.hid (fun W (hW : WEnv W) => digits_any (tx.length : Int) (by omega) W hW.toEnv)
  have s1 : (decL now).length ≤ 1000 := by have := decL_le now h1; omega
  have s2 : (kindL kd).length ≤ 1000 := by have := kindL_le kd h2; omega
  have s3 : (decL cn).length ≤ 1000 := by have := decL_le cn h3; omega
  have s4 : (nameL nm).length ≤ 1000 := by unfold nameL; split; exact (by decide); omega
  have s5 : (decL (tx.length : Int)).length ≤ 1000 := by have := decL_le (tx.length : Int) (by omega); omega
  have dJ := Lib.hid (fun B T fr W hB => join5 (decL now) (kindL kd) (decL cn) (nameL nm) (decL (tx.length : Int)) B T fr W hB ⟨s1, s2, s3, s4, s5⟩)
  rw [hj] at dJ
  generalize lineL ⟨now, kd, cn, nm, tx⟩ = R at *
  have hw1 := str_none (wordK kd)
  have hn1 := str_none nm
  have hw2 : (mk (wordK kd)).toList.isEmpty = decide (wordK kd = []) := by rw [Lib.toList_data]; cases wordK kd <;> rfl
  have hn2 : (mk nm).toList.isEmpty = decide (nm = []) := by rw [Lib.toList_data]; cases nm <;> rfl
  have hE0 := he.below ((Below.refl _ _).alloc (Nat.le_refl _) (.cells #[.int .i64 kd, .int .i64 cn, .string (mk nm), .string (mk tx), .int .i64 now] 63))
  have hB0 := (Below.refl w.heap.size w).alloc (Nat.le_refl _) (.cells #[.int .i64 kd, .int .i64 cn, .string (mk nm), .string (mk tx), .int .i64 now] 63)
  have hq0 : Blk (w.alloc (.cells #[.int .i64 kd, .int .i64 cn, .string (mk nm), .string (mk tx), .int .i64 now] 63)) w.heap.size #[.int .i64 kd, .int .i64 cn, .string (mk nm), .string (mk tx), .int .i64 now] 63 := Blk.new _ _ _
  have hEB := Lib.hid (fun (W' : World) (hb : Below w.heap.size w W') => he.below hb)
  clear he hj h1 h2 h3 s1 s2 s3 s4 s5 hn ht
  go_enter Tryd.func24, Tryd.ntmps24
  go_wp2_with fail
  generalize w.alloc (.cells #[.int .i64 kd, .int .i64 cn, .string (mk nm), .string (mk tx), .int .i64 now] 63) = w0 at *
  have hg : w.heap.size ≤ w0.heap.size := hB0.size
  have hql := hq0.lt
  generalize hqe0 : w.heap.size = q at *
  have hqe := Lib.hid hqe0
  clear hqe0
  have c0 : w0.cell? ⟨q, 0, none⟩ = some (.int .i64 kd) := hq0.cell rfl
  have c1 : w0.cell? ⟨q, 1, none⟩ = some (.int .i64 cn) := hq0.cell rfl
  have c2 : w0.cell? ⟨q, 2, none⟩ = some (.string (mk nm)) := hq0.cell rfl
  have c3 : w0.cell? ⟨q, 3, none⟩ = some (.string (mk tx)) := hq0.cell rfl
  have c4 : w0.cell? ⟨q, 4, none⟩ = some (.int .i64 now) := hq0.cell rfl
  have hhE := Lib.hid hE0
  have hhB := Lib.hid hB0
  have hhq := Lib.hid hq0
  clear hE0 hB0 hq0
  by_cases k1 : wordK kd = []
  all_goals by_cases k2 : nm = []
  all_goals (
    simp only [k1, k2, decide_true, decide_false] at hw1 hn1 hw2 hn2
    (try (rw [k2] at hhq))
    unfold kindL nameL at dJ
    simp only [k1, k2, if_true, if_false] at dJ
    go_quiet ((go_at_call 12; with_reducible exact Calls.quiet_of_same (dW.out _ (hhE.out.dn _))))
    go_wp2_with (go_at_call 30; go_loud (refine (d2.out _ (by first | exact hhE.out.drew | exact hhE.out.dn _ | exact hhE.out)).mono ?_; rintro e w1 ⟨rfl, hb1⟩))
    skip)
  · have hq1 : Hid (Blk w1 q #[.int .i64 kd, .int .i64 cn, .string (mk []), .string (mk tx), .int .i64 now] 63) := Lib.hid ((show Blk (w0.drewN nq) q #[.int .i64 kd, .int .i64 cn, .string (mk []), .string (mk tx), .int .i64 now] 63 from hhq.out).below hb1)
    have hB1 : Hid (Below q w w1) := Lib.hid ((below_drewN hhB.out nq).trans (hb1.mono (Nat.le_of_lt hql)))
    generalize w1 = W at *

    have e0 : W.cell? ⟨q, 0, none⟩ = some (.int .i64 kd) := hq1.out.cell rfl
    have e1 : W.cell? ⟨q, 1, none⟩ = some (.int .i64 cn) := hq1.out.cell rfl
    have e2 : W.cell? ⟨q, 2, none⟩ = some (.string (mk [])) := hq1.out.cell rfl
    have e3 : W.cell? ⟨q, 3, none⟩ = some (.string (mk tx)) := hq1.out.cell rfl
    have e4 : W.cell? ⟨q, 4, none⟩ = some (.int .i64 now) := hq1.out.cell rfl
    go_region_held (fun w' => w'.cell? ⟨q, 0, none⟩ = some (.int .i64 kd) ∧ w'.cell? ⟨q, 1, none⟩ = some (.int .i64 cn) ∧ w'.cell? ⟨q, 2, none⟩ = some (.string (mk [])) ∧ w'.cell? ⟨q, 3, none⟩ = some (.string (mk tx)) ∧ w'.cell? ⟨q, 4, none⟩ = some (.int .i64 now)) (go_keep) (first
      | (go_at_call 30; have hqq := hq1; refine (d1.out _ (hEB.out _ (by first | exact hB1.out | exact hB1.out.drew))).mono ?_; (rintro e w3 ⟨rfl, hb⟩; replace hq1 : Hid (Blk w3 q #[.int .i64 kd, .int .i64 cn, .string (mk []), .string (mk tx), .int .i64 now] 63) := Lib.hid (hq1.out.below ⟨hb.os, hb.tape, hb.output, hb.size, hb.block⟩); replace e0 : w3.cell? ⟨q, 0, none⟩ = some (.int .i64 kd) := hq1.out.cell rfl; replace e1 : w3.cell? ⟨q, 1, none⟩ = some (.int .i64 cn) := hq1.out.cell rfl; replace e2 : w3.cell? ⟨q, 2, none⟩ = some (.string (mk [])) := hq1.out.cell rfl; replace e3 : w3.cell? ⟨q, 3, none⟩ = some (.string (mk tx)) := hq1.out.cell rfl; replace e4 : w3.cell? ⟨q, 4, none⟩ = some (.int .i64 now) := hq1.out.cell rfl; replace hB1 : Hid (Below q w w3) := Lib.hid (by first | exact hB1.out.trans (hb.mono (Nat.le_of_lt (Blk.lt hqq.out))) | exact hB1.out.drew.trans (hb.mono (Nat.le_of_lt (Blk.lt hqq.out)))); clear hqq hb))
      | (go_at_call 30; have hqq := hq1; refine (d3.out _ (hEB.out _ (by first | exact hB1.out | exact hB1.out.drew))).mono ?_; (rintro e w3 ⟨rfl, hb⟩; replace hq1 : Hid (Blk w3 q #[.int .i64 kd, .int .i64 cn, .string (mk []), .string (mk tx), .int .i64 now] 63) := Lib.hid (hq1.out.below ⟨hb.os, hb.tape, hb.output, hb.size, hb.block⟩); replace e0 : w3.cell? ⟨q, 0, none⟩ = some (.int .i64 kd) := hq1.out.cell rfl; replace e1 : w3.cell? ⟨q, 1, none⟩ = some (.int .i64 cn) := hq1.out.cell rfl; replace e2 : w3.cell? ⟨q, 2, none⟩ = some (.string (mk [])) := hq1.out.cell rfl; replace e3 : w3.cell? ⟨q, 3, none⟩ = some (.string (mk tx)) := hq1.out.cell rfl; replace e4 : w3.cell? ⟨q, 4, none⟩ = some (.int .i64 now) := hq1.out.cell rfl; replace hB1 : Hid (Below q w w3) := Lib.hid (by first | exact hB1.out.trans (hb.mono (Nat.le_of_lt (Blk.lt hqq.out))) | exact hB1.out.drew.trans (hb.mono (Nat.le_of_lt (Blk.lt hqq.out)))); clear hqq hb))
      | (go_at_call 30; have hqq := hq1; refine (d4.out _ (hEB.out _ (by first | exact hB1.out | exact hB1.out.drew))).mono ?_; (rintro e w3 ⟨rfl, hb⟩; replace hq1 : Hid (Blk w3 q #[.int .i64 kd, .int .i64 cn, .string (mk []), .string (mk tx), .int .i64 now] 63) := Lib.hid (hq1.out.below ⟨hb.os, hb.tape, hb.output, hb.size, hb.block⟩); replace e0 : w3.cell? ⟨q, 0, none⟩ = some (.int .i64 kd) := hq1.out.cell rfl; replace e1 : w3.cell? ⟨q, 1, none⟩ = some (.int .i64 cn) := hq1.out.cell rfl; replace e2 : w3.cell? ⟨q, 2, none⟩ = some (.string (mk [])) := hq1.out.cell rfl; replace e3 : w3.cell? ⟨q, 3, none⟩ = some (.string (mk tx)) := hq1.out.cell rfl; replace e4 : w3.cell? ⟨q, 4, none⟩ = some (.int .i64 now) := hq1.out.cell rfl; replace hB1 : Hid (Below q w w3) := Lib.hid (by first | exact hB1.out.trans (hb.mono (Nat.le_of_lt (Blk.lt hqq.out))) | exact hB1.out.drew.trans (hb.mono (Nat.le_of_lt (Blk.lt hqq.out)))); clear hqq hb))
      | (go_at_call 31; have hqq := hq1; refine (dJ.out _ _ _ _ (heap_alloc_new _ _)).mono ?_; go_loud (rintro e w9 ⟨rfl, hb⟩; replace hq1 : Hid (Blk w9 q #[.int .i64 kd, .int .i64 cn, .string (mk []), .string (mk tx), .int .i64 now] 63) := Lib.hid ((hq1.out.alloc _).below ⟨hb.os, hb.tape, hb.output, hb.size, hb.block⟩); replace e0 : w9.cell? ⟨q, 0, none⟩ = some (.int .i64 kd) := hq1.out.cell rfl; replace e1 : w9.cell? ⟨q, 1, none⟩ = some (.int .i64 cn) := hq1.out.cell rfl; replace e2 : w9.cell? ⟨q, 2, none⟩ = some (.string (mk [])) := hq1.out.cell rfl; replace e3 : w9.cell? ⟨q, 3, none⟩ = some (.string (mk tx)) := hq1.out.cell rfl; replace e4 : w9.cell? ⟨q, 4, none⟩ = some (.int .i64 now) := hq1.out.cell rfl; replace hB1 : Hid (Below q w w9) := Lib.hid ((hB1.out.alloc (Nat.le_of_lt hqq.out.lt) _).trans (hb.mono (by have := hqq.out.lt; simp; omega))); clear hqq hb)))
    all_goals go_wp2
    all_goals go_ret
    all_goals exact ⟨rfl, by first | exact hB1.out | (rw [hqe.out]; exact hB1.out)⟩
  · have hq1 : Hid (Blk w1 q #[.int .i64 kd, .int .i64 cn, .string (mk nm), .string (mk tx), .int .i64 now] 63) := Lib.hid ((show Blk (w0.drewN nq) q #[.int .i64 kd, .int .i64 cn, .string (mk nm), .string (mk tx), .int .i64 now] 63 from hhq.out).below hb1)
    have hB1 : Hid (Below q w w1) := Lib.hid ((below_drewN hhB.out nq).trans (hb1.mono (Nat.le_of_lt hql)))
    generalize w1 = W at *

    have e0 : W.cell? ⟨q, 0, none⟩ = some (.int .i64 kd) := hq1.out.cell rfl
    have e1 : W.cell? ⟨q, 1, none⟩ = some (.int .i64 cn) := hq1.out.cell rfl
    have e2 : W.cell? ⟨q, 2, none⟩ = some (.string (mk nm)) := hq1.out.cell rfl
    have e3 : W.cell? ⟨q, 3, none⟩ = some (.string (mk tx)) := hq1.out.cell rfl
    have e4 : W.cell? ⟨q, 4, none⟩ = some (.int .i64 now) := hq1.out.cell rfl
    go_region_held (fun w' => w'.cell? ⟨q, 0, none⟩ = some (.int .i64 kd) ∧ w'.cell? ⟨q, 1, none⟩ = some (.int .i64 cn) ∧ w'.cell? ⟨q, 2, none⟩ = some (.string (mk nm)) ∧ w'.cell? ⟨q, 3, none⟩ = some (.string (mk tx)) ∧ w'.cell? ⟨q, 4, none⟩ = some (.int .i64 now)) (go_keep) (first
      | (go_at_call 30; have hqq := hq1; refine (d1.out _ (hEB.out _ (by first | exact hB1.out | exact hB1.out.drew))).mono ?_; (rintro e w3 ⟨rfl, hb⟩; replace hq1 : Hid (Blk w3 q #[.int .i64 kd, .int .i64 cn, .string (mk nm), .string (mk tx), .int .i64 now] 63) := Lib.hid (hq1.out.below ⟨hb.os, hb.tape, hb.output, hb.size, hb.block⟩); replace e0 : w3.cell? ⟨q, 0, none⟩ = some (.int .i64 kd) := hq1.out.cell rfl; replace e1 : w3.cell? ⟨q, 1, none⟩ = some (.int .i64 cn) := hq1.out.cell rfl; replace e2 : w3.cell? ⟨q, 2, none⟩ = some (.string (mk nm)) := hq1.out.cell rfl; replace e3 : w3.cell? ⟨q, 3, none⟩ = some (.string (mk tx)) := hq1.out.cell rfl; replace e4 : w3.cell? ⟨q, 4, none⟩ = some (.int .i64 now) := hq1.out.cell rfl; replace hB1 : Hid (Below q w w3) := Lib.hid (by first | exact hB1.out.trans (hb.mono (Nat.le_of_lt (Blk.lt hqq.out))) | exact hB1.out.drew.trans (hb.mono (Nat.le_of_lt (Blk.lt hqq.out)))); clear hqq hb))
      | (go_at_call 30; have hqq := hq1; refine (d3.out _ (hEB.out _ (by first | exact hB1.out | exact hB1.out.drew))).mono ?_; (rintro e w3 ⟨rfl, hb⟩; replace hq1 : Hid (Blk w3 q #[.int .i64 kd, .int .i64 cn, .string (mk nm), .string (mk tx), .int .i64 now] 63) := Lib.hid (hq1.out.below ⟨hb.os, hb.tape, hb.output, hb.size, hb.block⟩); replace e0 : w3.cell? ⟨q, 0, none⟩ = some (.int .i64 kd) := hq1.out.cell rfl; replace e1 : w3.cell? ⟨q, 1, none⟩ = some (.int .i64 cn) := hq1.out.cell rfl; replace e2 : w3.cell? ⟨q, 2, none⟩ = some (.string (mk nm)) := hq1.out.cell rfl; replace e3 : w3.cell? ⟨q, 3, none⟩ = some (.string (mk tx)) := hq1.out.cell rfl; replace e4 : w3.cell? ⟨q, 4, none⟩ = some (.int .i64 now) := hq1.out.cell rfl; replace hB1 : Hid (Below q w w3) := Lib.hid (by first | exact hB1.out.trans (hb.mono (Nat.le_of_lt (Blk.lt hqq.out))) | exact hB1.out.drew.trans (hb.mono (Nat.le_of_lt (Blk.lt hqq.out)))); clear hqq hb))
      | (go_at_call 30; have hqq := hq1; refine (d4.out _ (hEB.out _ (by first | exact hB1.out | exact hB1.out.drew))).mono ?_; (rintro e w3 ⟨rfl, hb⟩; replace hq1 : Hid (Blk w3 q #[.int .i64 kd, .int .i64 cn, .string (mk nm), .string (mk tx), .int .i64 now] 63) := Lib.hid (hq1.out.below ⟨hb.os, hb.tape, hb.output, hb.size, hb.block⟩); replace e0 : w3.cell? ⟨q, 0, none⟩ = some (.int .i64 kd) := hq1.out.cell rfl; replace e1 : w3.cell? ⟨q, 1, none⟩ = some (.int .i64 cn) := hq1.out.cell rfl; replace e2 : w3.cell? ⟨q, 2, none⟩ = some (.string (mk nm)) := hq1.out.cell rfl; replace e3 : w3.cell? ⟨q, 3, none⟩ = some (.string (mk tx)) := hq1.out.cell rfl; replace e4 : w3.cell? ⟨q, 4, none⟩ = some (.int .i64 now) := hq1.out.cell rfl; replace hB1 : Hid (Below q w w3) := Lib.hid (by first | exact hB1.out.trans (hb.mono (Nat.le_of_lt (Blk.lt hqq.out))) | exact hB1.out.drew.trans (hb.mono (Nat.le_of_lt (Blk.lt hqq.out)))); clear hqq hb))
      | (go_at_call 31; have hqq := hq1; refine (dJ.out _ _ _ _ (heap_alloc_new _ _)).mono ?_; go_loud (rintro e w9 ⟨rfl, hb⟩; replace hq1 : Hid (Blk w9 q #[.int .i64 kd, .int .i64 cn, .string (mk nm), .string (mk tx), .int .i64 now] 63) := Lib.hid ((hq1.out.alloc _).below ⟨hb.os, hb.tape, hb.output, hb.size, hb.block⟩); replace e0 : w9.cell? ⟨q, 0, none⟩ = some (.int .i64 kd) := hq1.out.cell rfl; replace e1 : w9.cell? ⟨q, 1, none⟩ = some (.int .i64 cn) := hq1.out.cell rfl; replace e2 : w9.cell? ⟨q, 2, none⟩ = some (.string (mk nm)) := hq1.out.cell rfl; replace e3 : w9.cell? ⟨q, 3, none⟩ = some (.string (mk tx)) := hq1.out.cell rfl; replace e4 : w9.cell? ⟨q, 4, none⟩ = some (.int .i64 now) := hq1.out.cell rfl; replace hB1 : Hid (Below q w w9) := Lib.hid ((hB1.out.alloc (Nat.le_of_lt hqq.out.lt) _).trans (hb.mono (by have := hqq.out.lt; simp; omega))); clear hqq hb)))
    all_goals go_wp2
    all_goals go_ret
    all_goals exact ⟨rfl, by first | exact hB1.out | (rw [hqe.out]; exact hB1.out)⟩
  · have hq1 : Hid (Blk (w0.drewN nq) q #[.int .i64 kd, .int .i64 cn, .string (mk []), .string (mk tx), .int .i64 now] 63) := Lib.hid hhq.out
    have hB1 : Hid (Below q w (w0.drewN nq)) := Lib.hid (below_drewN hhB.out nq)
    generalize w0.drewN nq = W at *

    have e0 : W.cell? ⟨q, 0, none⟩ = some (.int .i64 kd) := hq1.out.cell rfl
    have e1 : W.cell? ⟨q, 1, none⟩ = some (.int .i64 cn) := hq1.out.cell rfl
    have e2 : W.cell? ⟨q, 2, none⟩ = some (.string (mk [])) := hq1.out.cell rfl
    have e3 : W.cell? ⟨q, 3, none⟩ = some (.string (mk tx)) := hq1.out.cell rfl
    have e4 : W.cell? ⟨q, 4, none⟩ = some (.int .i64 now) := hq1.out.cell rfl
    go_region_held (fun w' => w'.cell? ⟨q, 0, none⟩ = some (.int .i64 kd) ∧ w'.cell? ⟨q, 1, none⟩ = some (.int .i64 cn) ∧ w'.cell? ⟨q, 2, none⟩ = some (.string (mk [])) ∧ w'.cell? ⟨q, 3, none⟩ = some (.string (mk tx)) ∧ w'.cell? ⟨q, 4, none⟩ = some (.int .i64 now)) (go_keep) (first
      | (go_at_call 30; have hqq := hq1; refine (d1.out _ (hEB.out _ (by first | exact hB1.out | exact hB1.out.drew))).mono ?_; (rintro e w3 ⟨rfl, hb⟩; replace hq1 : Hid (Blk w3 q #[.int .i64 kd, .int .i64 cn, .string (mk []), .string (mk tx), .int .i64 now] 63) := Lib.hid (hq1.out.below ⟨hb.os, hb.tape, hb.output, hb.size, hb.block⟩); replace e0 : w3.cell? ⟨q, 0, none⟩ = some (.int .i64 kd) := hq1.out.cell rfl; replace e1 : w3.cell? ⟨q, 1, none⟩ = some (.int .i64 cn) := hq1.out.cell rfl; replace e2 : w3.cell? ⟨q, 2, none⟩ = some (.string (mk [])) := hq1.out.cell rfl; replace e3 : w3.cell? ⟨q, 3, none⟩ = some (.string (mk tx)) := hq1.out.cell rfl; replace e4 : w3.cell? ⟨q, 4, none⟩ = some (.int .i64 now) := hq1.out.cell rfl; replace hB1 : Hid (Below q w w3) := Lib.hid (by first | exact hB1.out.trans (hb.mono (Nat.le_of_lt (Blk.lt hqq.out))) | exact hB1.out.drew.trans (hb.mono (Nat.le_of_lt (Blk.lt hqq.out)))); clear hqq hb))
      | (go_at_call 30; have hqq := hq1; refine (d3.out _ (hEB.out _ (by first | exact hB1.out | exact hB1.out.drew))).mono ?_; (rintro e w3 ⟨rfl, hb⟩; replace hq1 : Hid (Blk w3 q #[.int .i64 kd, .int .i64 cn, .string (mk []), .string (mk tx), .int .i64 now] 63) := Lib.hid (hq1.out.below ⟨hb.os, hb.tape, hb.output, hb.size, hb.block⟩); replace e0 : w3.cell? ⟨q, 0, none⟩ = some (.int .i64 kd) := hq1.out.cell rfl; replace e1 : w3.cell? ⟨q, 1, none⟩ = some (.int .i64 cn) := hq1.out.cell rfl; replace e2 : w3.cell? ⟨q, 2, none⟩ = some (.string (mk [])) := hq1.out.cell rfl; replace e3 : w3.cell? ⟨q, 3, none⟩ = some (.string (mk tx)) := hq1.out.cell rfl; replace e4 : w3.cell? ⟨q, 4, none⟩ = some (.int .i64 now) := hq1.out.cell rfl; replace hB1 : Hid (Below q w w3) := Lib.hid (by first | exact hB1.out.trans (hb.mono (Nat.le_of_lt (Blk.lt hqq.out))) | exact hB1.out.drew.trans (hb.mono (Nat.le_of_lt (Blk.lt hqq.out)))); clear hqq hb))
      | (go_at_call 30; have hqq := hq1; refine (d4.out _ (hEB.out _ (by first | exact hB1.out | exact hB1.out.drew))).mono ?_; (rintro e w3 ⟨rfl, hb⟩; replace hq1 : Hid (Blk w3 q #[.int .i64 kd, .int .i64 cn, .string (mk []), .string (mk tx), .int .i64 now] 63) := Lib.hid (hq1.out.below ⟨hb.os, hb.tape, hb.output, hb.size, hb.block⟩); replace e0 : w3.cell? ⟨q, 0, none⟩ = some (.int .i64 kd) := hq1.out.cell rfl; replace e1 : w3.cell? ⟨q, 1, none⟩ = some (.int .i64 cn) := hq1.out.cell rfl; replace e2 : w3.cell? ⟨q, 2, none⟩ = some (.string (mk [])) := hq1.out.cell rfl; replace e3 : w3.cell? ⟨q, 3, none⟩ = some (.string (mk tx)) := hq1.out.cell rfl; replace e4 : w3.cell? ⟨q, 4, none⟩ = some (.int .i64 now) := hq1.out.cell rfl; replace hB1 : Hid (Below q w w3) := Lib.hid (by first | exact hB1.out.trans (hb.mono (Nat.le_of_lt (Blk.lt hqq.out))) | exact hB1.out.drew.trans (hb.mono (Nat.le_of_lt (Blk.lt hqq.out)))); clear hqq hb))
      | (go_at_call 31; have hqq := hq1; refine (dJ.out _ _ _ _ (heap_alloc_new _ _)).mono ?_; go_loud (rintro e w9 ⟨rfl, hb⟩; replace hq1 : Hid (Blk w9 q #[.int .i64 kd, .int .i64 cn, .string (mk []), .string (mk tx), .int .i64 now] 63) := Lib.hid ((hq1.out.alloc _).below ⟨hb.os, hb.tape, hb.output, hb.size, hb.block⟩); replace e0 : w9.cell? ⟨q, 0, none⟩ = some (.int .i64 kd) := hq1.out.cell rfl; replace e1 : w9.cell? ⟨q, 1, none⟩ = some (.int .i64 cn) := hq1.out.cell rfl; replace e2 : w9.cell? ⟨q, 2, none⟩ = some (.string (mk [])) := hq1.out.cell rfl; replace e3 : w9.cell? ⟨q, 3, none⟩ = some (.string (mk tx)) := hq1.out.cell rfl; replace e4 : w9.cell? ⟨q, 4, none⟩ = some (.int .i64 now) := hq1.out.cell rfl; replace hB1 : Hid (Below q w w9) := Lib.hid ((hB1.out.alloc (Nat.le_of_lt hqq.out.lt) _).trans (hb.mono (by have := hqq.out.lt; simp; omega))); clear hqq hb)))
    all_goals go_wp2
    all_goals go_ret
    all_goals exact ⟨rfl, by first | exact hB1.out | (rw [hqe.out]; exact hB1.out)⟩
  · have hq1 : Hid (Blk (w0.drewN nq) q #[.int .i64 kd, .int .i64 cn, .string (mk nm), .string (mk tx), .int .i64 now] 63) := Lib.hid hhq.out
    have hB1 : Hid (Below q w (w0.drewN nq)) := Lib.hid (below_drewN hhB.out nq)
    generalize w0.drewN nq = W at *

    have e0 : W.cell? ⟨q, 0, none⟩ = some (.int .i64 kd) := hq1.out.cell rfl
    have e1 : W.cell? ⟨q, 1, none⟩ = some (.int .i64 cn) := hq1.out.cell rfl
    have e2 : W.cell? ⟨q, 2, none⟩ = some (.string (mk nm)) := hq1.out.cell rfl
    have e3 : W.cell? ⟨q, 3, none⟩ = some (.string (mk tx)) := hq1.out.cell rfl
    have e4 : W.cell? ⟨q, 4, none⟩ = some (.int .i64 now) := hq1.out.cell rfl
    go_region_held (fun w' => w'.cell? ⟨q, 0, none⟩ = some (.int .i64 kd) ∧ w'.cell? ⟨q, 1, none⟩ = some (.int .i64 cn) ∧ w'.cell? ⟨q, 2, none⟩ = some (.string (mk nm)) ∧ w'.cell? ⟨q, 3, none⟩ = some (.string (mk tx)) ∧ w'.cell? ⟨q, 4, none⟩ = some (.int .i64 now)) (go_keep) (first
      | (go_at_call 30; have hqq := hq1; refine (d1.out _ (hEB.out _ (by first | exact hB1.out | exact hB1.out.drew))).mono ?_; (rintro e w3 ⟨rfl, hb⟩; replace hq1 : Hid (Blk w3 q #[.int .i64 kd, .int .i64 cn, .string (mk nm), .string (mk tx), .int .i64 now] 63) := Lib.hid (hq1.out.below ⟨hb.os, hb.tape, hb.output, hb.size, hb.block⟩); replace e0 : w3.cell? ⟨q, 0, none⟩ = some (.int .i64 kd) := hq1.out.cell rfl; replace e1 : w3.cell? ⟨q, 1, none⟩ = some (.int .i64 cn) := hq1.out.cell rfl; replace e2 : w3.cell? ⟨q, 2, none⟩ = some (.string (mk nm)) := hq1.out.cell rfl; replace e3 : w3.cell? ⟨q, 3, none⟩ = some (.string (mk tx)) := hq1.out.cell rfl; replace e4 : w3.cell? ⟨q, 4, none⟩ = some (.int .i64 now) := hq1.out.cell rfl; replace hB1 : Hid (Below q w w3) := Lib.hid (by first | exact hB1.out.trans (hb.mono (Nat.le_of_lt (Blk.lt hqq.out))) | exact hB1.out.drew.trans (hb.mono (Nat.le_of_lt (Blk.lt hqq.out)))); clear hqq hb))
      | (go_at_call 30; have hqq := hq1; refine (d3.out _ (hEB.out _ (by first | exact hB1.out | exact hB1.out.drew))).mono ?_; (rintro e w3 ⟨rfl, hb⟩; replace hq1 : Hid (Blk w3 q #[.int .i64 kd, .int .i64 cn, .string (mk nm), .string (mk tx), .int .i64 now] 63) := Lib.hid (hq1.out.below ⟨hb.os, hb.tape, hb.output, hb.size, hb.block⟩); replace e0 : w3.cell? ⟨q, 0, none⟩ = some (.int .i64 kd) := hq1.out.cell rfl; replace e1 : w3.cell? ⟨q, 1, none⟩ = some (.int .i64 cn) := hq1.out.cell rfl; replace e2 : w3.cell? ⟨q, 2, none⟩ = some (.string (mk nm)) := hq1.out.cell rfl; replace e3 : w3.cell? ⟨q, 3, none⟩ = some (.string (mk tx)) := hq1.out.cell rfl; replace e4 : w3.cell? ⟨q, 4, none⟩ = some (.int .i64 now) := hq1.out.cell rfl; replace hB1 : Hid (Below q w w3) := Lib.hid (by first | exact hB1.out.trans (hb.mono (Nat.le_of_lt (Blk.lt hqq.out))) | exact hB1.out.drew.trans (hb.mono (Nat.le_of_lt (Blk.lt hqq.out)))); clear hqq hb))
      | (go_at_call 30; have hqq := hq1; refine (d4.out _ (hEB.out _ (by first | exact hB1.out | exact hB1.out.drew))).mono ?_; (rintro e w3 ⟨rfl, hb⟩; replace hq1 : Hid (Blk w3 q #[.int .i64 kd, .int .i64 cn, .string (mk nm), .string (mk tx), .int .i64 now] 63) := Lib.hid (hq1.out.below ⟨hb.os, hb.tape, hb.output, hb.size, hb.block⟩); replace e0 : w3.cell? ⟨q, 0, none⟩ = some (.int .i64 kd) := hq1.out.cell rfl; replace e1 : w3.cell? ⟨q, 1, none⟩ = some (.int .i64 cn) := hq1.out.cell rfl; replace e2 : w3.cell? ⟨q, 2, none⟩ = some (.string (mk nm)) := hq1.out.cell rfl; replace e3 : w3.cell? ⟨q, 3, none⟩ = some (.string (mk tx)) := hq1.out.cell rfl; replace e4 : w3.cell? ⟨q, 4, none⟩ = some (.int .i64 now) := hq1.out.cell rfl; replace hB1 : Hid (Below q w w3) := Lib.hid (by first | exact hB1.out.trans (hb.mono (Nat.le_of_lt (Blk.lt hqq.out))) | exact hB1.out.drew.trans (hb.mono (Nat.le_of_lt (Blk.lt hqq.out)))); clear hqq hb))
      | (go_at_call 31; have hqq := hq1; refine (dJ.out _ _ _ _ (heap_alloc_new _ _)).mono ?_; go_loud (rintro e w9 ⟨rfl, hb⟩; replace hq1 : Hid (Blk w9 q #[.int .i64 kd, .int .i64 cn, .string (mk nm), .string (mk tx), .int .i64 now] 63) := Lib.hid ((hq1.out.alloc _).below ⟨hb.os, hb.tape, hb.output, hb.size, hb.block⟩); replace e0 : w9.cell? ⟨q, 0, none⟩ = some (.int .i64 kd) := hq1.out.cell rfl; replace e1 : w9.cell? ⟨q, 1, none⟩ = some (.int .i64 cn) := hq1.out.cell rfl; replace e2 : w9.cell? ⟨q, 2, none⟩ = some (.string (mk nm)) := hq1.out.cell rfl; replace e3 : w9.cell? ⟨q, 3, none⟩ = some (.string (mk tx)) := hq1.out.cell rfl; replace e4 : w9.cell? ⟨q, 4, none⟩ = some (.int .i64 now) := hq1.out.cell rfl; replace hB1 : Hid (Below q w w9) := Lib.hid ((hB1.out.alloc (Nat.le_of_lt hqq.out.lt) _).trans (hb.mono (by have := hqq.out.lt; simp; omega))); clear hqq hb)))
    all_goals go_wp2
    all_goals go_ret
    all_goals exact ⟨rfl, by first | exact hB1.out | (rw [hqe.out]; exact hB1.out)⟩
end Go.Proofs.YtphbieaoedbmpaaDoor.Rp
