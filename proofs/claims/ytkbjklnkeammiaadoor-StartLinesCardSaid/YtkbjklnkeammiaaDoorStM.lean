/- The law StartLines. -/
import Derived.Test.YtkbjklnkeammiaaDoorStL
import Derived.Deep.RegionHeld
namespace Go.Proofs.YtkbjklnkeammiaaDoor.Oct
open Go.RowKit
set_option linter.unusedVariables false
theorem no32 {c : Int} (h32 : inC c 32 = false) {l : List UInt8} (h : l.all (inC c) = true) : l.all (fun x => x != 32) = true := by
  rw [List.all_eq_true] at h ⊢
  intro x hx
  have := h x hx
  have hne : x ≠ 32 := fun e => by rw [e, h32] at this; cases this
  simpa using hne
theorem tok32 {m : List UInt8} (h : tokenS (mk m) = true) : m.all (fun x => x != 32) = true := by
  unfold tokenS at h
  simp only [Bool.and_eq_true] at h
  exact no32 (c := 1) (by decide +kernel) h.2
theorem tar32 {m : List UInt8} (h : targetS (mk m) = true) : m.all (fun x => x != 32) = true := by
  unfold targetS at h
  simp only [Bool.and_eq_true] at h
  exact no32 (c := 2) (by decide +kernel) h.2
theorem all_count {l : List UInt8} : l.all (fun x => x != 32) = true ↔ l.count 32 = 0 := by
  rw [List.all_eq_true, List.count_eq_zero]
  constructor
  · intro h hm; have := h 32 hm; simp at this
  · intro h x hx; have : x ≠ 32 := fun e => h (e ▸ hx); simpa using this
theorem req_both {m t : List UInt8} (hm : m.all (fun x => x != 32) = true) (ht : t.all (fun x => x != 32) = true) :
    splC 32 (m ++ 32 :: (t ++ 32 :: verL)) = (m, t ++ 32 :: verL, true) ∧ splC 32 (t ++ 32 :: verL) = (t, verL, true) := ⟨splC_at hm, splC_at ht⟩
/-- A line that is put together is a request exactly where its parts may be. -/
theorem req_line (m t : List UInt8) : (reqOf (m ++ 32 :: (t ++ 32 :: verL))).2 = if tokenS (mk m) = true ∧ targetS (mk t) = true then 0 else 2 := by
  by_cases h : tokenS (mk m) = true ∧ targetS (mk t) = true
  · obtain ⟨e1, e2⟩ := req_both (tok32 h.1) (tar32 h.2)
    rw [if_pos h]
    have e : reqOf (m ++ 32 :: (t ++ 32 :: verL)) = ((m, t), 0) := by
      unfold reqOf
      rw [e1]
      simp only
      rw [e2]
      exact if_pos (by simp [h.1, h.2])
    rw [e]
  · rw [if_neg h]
    rcases req_two (m ++ 32 :: (t ++ 32 :: verL)) with hR | ⟨m', t', hR, hc, hT, hG⟩
    · rw [hR]
    · exfalso
      have b1 := all_count.1 (tok32 hT)
      have b2 := all_count.1 (tar32 hG)
      have hcount := congrArg (List.count 32) hc
      have hv : verL.count 32 = 0 := by decide
      simp only [List.count_append, List.count_cons_self, b1, b2, hv] at hcount
      have a1 := all_count.2 (show m.count 32 = 0 by omega)
      have a2 := all_count.2 (show t.count 32 = 0 by omega)
      obtain ⟨e1, e2⟩ := req_both a1 a2
      obtain ⟨f1, f2⟩ := req_both (tok32 hT) (tar32 hG)
      rw [hc, f1] at e1
      simp only [Prod.mk.injEq, and_true] at e1
      rw [← e1.2, f2] at e2
      simp only [Prod.mk.injEq, and_true] at e2
      rw [← e1.1, ← e2] at h
      exact h ⟨hT, hG⟩
theorem cutF (s : ByteArray) (w : World) : Calls Tryd.prog 24 #[.string s, .int .i64 40] w fun e w' => e = .returned (.string (cutS 40 s)) ∧ w = w' := cut_any s 40 w
theorem cut70 (s : ByteArray) (w : World) : Calls Tryd.prog 24 #[.string s, .int .i64 70] w fun e w' => e = .returned (.string (cutS 70 s)) ∧ w = w' := cut_any s 70 w
theorem idemB (m t : List UInt8) (w : World) : Calls Tryd.prog 56 #[reqV (m, t)] w fun e w' => e = .returned (.bool (idemL m)) ∧ Below w.heap.size w w' :=
  (idem_any m t w).mono fun e w' h => ⟨h.1, by rw [h.2]; exact (Below.refl _ _).alloc (Nat.le_refl _) _⟩
theorem checkB (m t : List UInt8) (hm : m.length ≤ 100000) (ht : t.length ≤ 100000) (w : World) : Calls Tryd.prog 46 #[reqV (m, t)] w fun e w' => e = .returned (.int .i64 (if tokenS (mk m) = true ∧ targetS (mk t) = true then 0 else 2)) ∧ Below w.heap.size w w' :=
  (check_any m t hm ht w).mono fun e w' h => ⟨h.1, by rw [h.2]; exact (Below.refl _ _).alloc (Nat.le_refl _) _⟩
theorem four_of {w w1 : World} {a b c d : Value} {T : TypeId} (hb : Below (w.alloc (.cells #[a, b, c, d] T)).heap.size (w.alloc (.cells #[a, b, c, d] T)) w1) :
    w1.cell? ⟨w.heap.size, 0, none⟩ = some a ∧ w1.cell? ⟨w.heap.size, 1, none⟩ = some b ∧ w1.cell? ⟨w.heap.size, 2, none⟩ = some c ∧ w1.cell? ⟨w.heap.size, 3, none⟩ = some d := by
  have h : w1.heap[w.heap.size]? = some (.cells #[a, b, c, d] T) := (hb.block _ (by simp)).trans (blk_new _ _)
  refine ⟨?_, ?_, ?_, ?_⟩ <;> (simp only [World.cell?, h, Option.isSome_none, Bool.false_eq_true, if_false]; rfl)
theorem two_two {v w1 : World} {a b c d : Value} {T T2 : TypeId} (hb : Below ((v.alloc (.cells #[a, b] T)).alloc (.cells #[c, d] T2)).heap.size ((v.alloc (.cells #[a, b] T)).alloc (.cells #[c, d] T2)) w1) :
    w1.cell? ⟨v.heap.size, 0, none⟩ = some a ∧ w1.cell? ⟨v.heap.size, 1, none⟩ = some b ∧ w1.cell? ⟨v.heap.size + 1, 0, none⟩ = some c ∧ w1.cell? ⟨v.heap.size + 1, 1, none⟩ = some d := by
  have e : (v.alloc (.cells #[a, b] T)).heap.size = v.heap.size + 1 := by simp
  have h2 : w1.heap[v.heap.size + 1]? = some (.cells #[c, d] T2) := by
    have := (hb.block (v.alloc (.cells #[a, b] T)).heap.size (by simp)).trans (blk_new _ _)
    rw [e] at this; exact this
  have h1 : w1.heap[v.heap.size]? = some (.cells #[a, b] T) := (hb.block v.heap.size (by simp; omega)).trans ((Below.heap_alloc _ _ _ (by simp)).trans (blk_new _ _))
  refine ⟨?_, ?_, ?_, ?_⟩
  · simp only [World.cell?, h1, Option.isSome_none, Bool.false_eq_true, if_false]; rfl
  · simp only [World.cell?, h1, Option.isSome_none, Bool.false_eq_true, if_false]; rfl
  · simp only [World.cell?, h2, Option.isSome_none, Bool.false_eq_true, if_false]; rfl
  · simp only [World.cell?, h2, Option.isSome_none, Bool.false_eq_true, if_false]; rfl
set_option maxRecDepth 100000 in
set_option maxHeartbeats 2000000 in
theorem lines_any_law (a b r0 : ByteArray) (code : Int) (w : World) (he : SEnv w) :
    Calls Tryd.prog 12 #[.agg #[.string a, .string b, .string r0, .int .i64 code]] w fun e w' => e = .returned (.bool true) ∧ Below w.heap.size w w' := by
  have HE := Lib.hid he
  clear he
  have p1 := fun W => (cut70 a W).mono (fun e w' h => And.intro h.1 h.2.symm)
  have p2 := fun W => (cutF b W).mono (fun e w' h => And.intro h.1 h.2.symm)
  have p3 := fun W => (cutF r0 W).mono (fun e w' h => And.intro h.1 h.2.symm)
  obtain ⟨m, hm, ml⟩ := cutL 70 a
  obtain ⟨t, ht, tl⟩ := cutL 40 b
  obtain ⟨r, hr, rl⟩ := cutL 40 r0
  simp only [hm] at p1
  simp only [ht] at p2
  simp only [hr] at p3
  clear hm ht hr
  have k1 := cat_lit m [32] ⟨#[32]⟩ rfl (by simp; omega)
  have k2 := cat_lit (m ++ [32]) t (mk t) rfl (by simp; omega)
  have k3 := cat_lit ((m ++ [32]) ++ t) [32, 72, 84, 84, 80, 47, 49, 46, 49] ⟨#[32, 72, 84, 84, 80, 47, 49, 46, 49]⟩ rfl (by simp; omega)
  have d1 := fun W (h : Env W) => parseL (((m ++ [32]) ++ t) ++ [32, 72, 84, 84, 80, 47, 49, 46, 49]) (by simp; omega) W h
  have hq := req_line m t
  have e9 := checkB m t (by omega) (by omega)
  rw [show m ++ 32 :: (t ++ 32 :: verL) = ((m ++ [32]) ++ t) ++ [32, 72, 84, 84, 80, 47, 49, 46, 49] by simp [verL]] at hq
  simp only [hq] at d1
  generalize (if tokenS (mk m) = true ∧ targetS (mk t) = true then (0 : Int) else 2) = K at *
  have e1 := reqLine_any m t (by omega) (by omega)
  have e2 := refReqLine_any m t (by omega) (by omega)
  have e3 := Lib.hid (fun W (h : Env W) => stLine_any code r (by omega) W h)
  have e4 := Lib.hid (fun W (h : Env W) => refStLine_any code r (by omega) W h)
  have e5 := idemB m t
  have e6 := refIdem_any m t
  have e7 := Lib.hid (fun W (h : Env W) => path_any m t (by omega) W h)
  have e8 := refPath_any (mk t) (by rw [mk_size]; omega)
  rw [data_mk] at e8
  generalize reqLine m t = z1 at *
  generalize stLine code r = z2 at *
  generalize pathL t = z3 at *
  generalize idemL m = z4 at *
  clear hq
  generalize (m ++ [32]) = x1 at *
  generalize (x1 ++ t) = x2 at *
  generalize (x2 ++ [32, 72, 84, 84, 80, 47, 49, 46, 49]) = x3 at *
  generalize (reqOf x3).1 = X at *
  replace d1 := Lib.hid d1
  unfold reqV at d1 e1 e2 e5 e7 e9
  unfold stV at e3 e4
  go_enter Tryd.func12, Tryd.ntmps12
  go_wp2_with (first
    | (go_at_call 42; with_reducible refine (sawake_any _ (HE.out.below ((Below.refl _ _).alloc (Nat.le_refl _) _))).mono ?_; rintro e w1 ⟨rfl, hb⟩; obtain ⟨l0, l1, l2, l3⟩ := four_of hb; have hB := Lib.hid (grow_one (Below.refl _ w) hb); clear hb))
  go_quiet ((go_at_call 24; first | with_reducible exact Calls.quiet_of_same (p1 _) | with_reducible exact Calls.quiet_of_same (p2 _) | with_reducible exact Calls.quiet_of_same (p3 _)))
  replace hB := Lib.hid (below_drewN (n := nq) hB.out)
  clear l0 l1 l2 l3
  generalize w1.drewN nq = v1 at *
  have hE1 := Lib.hid (HE.out.toEnv.below hB.out)
  go_wp2_with (first
    | (go_at_call 43; refine (d1.out _ (HE.out.toEnv.below ((hB.out.alloc hB.out.size _).alloc (by have := hB.out.size; simp; omega) _))).mono ?_; rintro e w2 ⟨rfl, hb⟩; obtain ⟨f0, f1, f2, f3⟩ := two_two hb; replace hB := Lib.hid (grow_one (hB.out.alloc hB.out.size _) hb); clear hb))
  have hA : Below w2.heap.size w2 (w2.alloc (.cells #[.string (mk X.1), .string (mk X.2)] 51)) := (Below.refl _ _).alloc (Nat.le_refl _) _
  replace f0 := two_go hA f0
  replace f1 := two_go hA f1
  replace f2 := two_go hA f2
  replace f3 := two_go hA f3
  replace hB := Lib.hid (hB.out.trans (hA.mono hB.out.size))
  clear hA
  generalize w2.alloc (.cells #[.string (mk X.1), .string (mk X.2)] 51) = v2 at *
  generalize v1.heap.size + 1 = B2 at *
  generalize v1.heap.size = B1 at *
  clear d1 k1 k2 k3 p1 p2 p3
  go_region_held (fun w' => w'.cell? ⟨B1, 0, none⟩ = some (.string (mk m)) ∧ w'.cell? ⟨B1, 1, none⟩ = some (.string (mk t)) ∧ w'.cell? ⟨B2, 0, none⟩ = some (.int .i64 code) ∧ w'.cell? ⟨B2, 1, none⟩ = some (.string (mk r))) (go_keep) (first
    | (go_at_call 45; refine (e1 _).mono ?_; rintro e w3 ⟨rfl, hb⟩; replace f0 := two_go hb f0; replace f1 := two_go hb f1; replace f2 := two_go hb f2; replace f3 := two_go hb f3; replace hB : Hid (Below w.heap.size w w3) := Lib.hid (by first | exact hB.out.trans (hb.mono hB.out.size) | exact (Below.drew hB.out).trans (hb.mono (Below.drew hB.out).size)); clear hb)
    | (go_at_call 55; refine (e2 _).mono ?_; rintro e w4 ⟨rfl, hb⟩; replace f0 := two_go hb f0; replace f1 := two_go hb f1; replace f2 := two_go hb f2; replace f3 := two_go hb f3; replace hB : Hid (Below w.heap.size w w4) := Lib.hid (by first | exact hB.out.trans (hb.mono hB.out.size) | exact (Below.drew hB.out).trans (hb.mono (Below.drew hB.out).size)); clear hb)
    | (go_at_call 53; refine (e3.out _ (HE.out.toEnv.below hB.out)).mono ?_; rintro e w5 ⟨rfl, hb⟩; replace f0 := two_go hb f0; replace f1 := two_go hb f1; replace f2 := two_go hb f2; replace f3 := two_go hb f3; replace hB : Hid (Below w.heap.size w w5) := Lib.hid (by first | exact hB.out.trans (hb.mono hB.out.size) | exact (Below.drew hB.out).trans (hb.mono (Below.drew hB.out).size)); clear hb)
    | (go_at_call 54; refine (e4.out _ (HE.out.toEnv.below hB.out)).mono ?_; rintro e w6 ⟨rfl, hb⟩; replace f0 := two_go hb f0; replace f1 := two_go hb f1; replace f2 := two_go hb f2; replace f3 := two_go hb f3; replace hB : Hid (Below w.heap.size w w6) := Lib.hid (by first | exact hB.out.trans (hb.mono hB.out.size) | exact (Below.drew hB.out).trans (hb.mono (Below.drew hB.out).size)); clear hb)
    | (go_at_call 56; refine (e5 _).mono ?_; rintro e w7 ⟨rfl, hb⟩; replace f0 := two_go hb f0; replace f1 := two_go hb f1; replace f2 := two_go hb f2; replace f3 := two_go hb f3; replace hB : Hid (Below w.heap.size w w7) := Lib.hid (by first | exact hB.out.trans (hb.mono hB.out.size) | exact (Below.drew hB.out).trans (hb.mono (Below.drew hB.out).size)); clear hb)
    | (go_at_call 57; refine (e6 _).mono ?_; rintro e w7' ⟨rfl, rfl⟩)
    | (go_at_call 58; refine (e7.out _ (HE.out.toEnv.below hB.out)).mono ?_; rintro e w8 ⟨rfl, hb⟩; replace f0 := two_go hb f0; replace f1 := two_go hb f1; replace f2 := two_go hb f2; replace f3 := two_go hb f3; replace hB : Hid (Below w.heap.size w w8) := Lib.hid (by first | exact hB.out.trans (hb.mono hB.out.size) | exact (Below.drew hB.out).trans (hb.mono (Below.drew hB.out).size)); clear hb)
    | (go_at_call 59; refine (e8 _).mono ?_; rintro e w8' ⟨rfl, rfl⟩)
    | (go_at_call 46; refine (e9 _).mono ?_; rintro e w9 ⟨rfl, hb⟩; replace f0 := two_go hb f0; replace f1 := two_go hb f1; replace f2 := two_go hb f2; replace f3 := two_go hb f3; replace hB : Hid (Below w.heap.size w w9) := Lib.hid (by first | exact hB.out.trans (hb.mono hB.out.size) | exact (Below.drew hB.out).trans (hb.mono (Below.drew hB.out).size)); clear hb))
  all_goals go_wp2
  all_goals go_ret
  all_goals exact ⟨rfl, hB.out⟩
end Go.Proofs.YtkbjklnkeammiaaDoor.Oct
