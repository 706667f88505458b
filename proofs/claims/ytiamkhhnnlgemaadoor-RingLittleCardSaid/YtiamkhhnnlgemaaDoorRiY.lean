/- The law of RingLittle (printed by genY.py). -/
import Derived.Test.YtiamkhhnnlgemaaDoorRiQ
import Derived.Test.YtiamkhhnnlgemaaDoorRiX
namespace Go.Proofs.YtiamkhhnnlgemaaDoor.Ri
open Go.RowKit Go.Proofs.YtiamkhhnnlgemaaDoor.Sip Go.Proofs.YtiamkhhnnlgemaaDoor.Oct
set_option linter.unusedVariables false
attribute [local go_sem ↓] Go.wp_at_zero Go.wp_at_succ
theorem flat_len (xs : List Ent) : (xs.flatMap entV).length = xs.length * 2 := by
  induction xs with
  | nil => rfl
  | cons x xs ih => rw [List.flatMap_cons, List.length_append, ih]; simp [entV]; omega
theorem flat_drop : ∀ (L : List Ent) (a : Nat), (L.flatMap entV).drop (a * 2) = (L.drop a).flatMap entV
  | [], a => by simp
  | x :: L, 0 => by simp
  | x :: L, a + 1 => by
    rw [show (a + 1) * 2 = a * 2 + 2 by omega, List.drop_succ_cons]
    show (entV x ++ L.flatMap entV).drop (a * 2 + 2) = _
    rw [show entV x = [.string (mk x.1), .int .i64 x.2] from rfl]
    simp only [List.cons_append, List.nil_append, List.drop_succ_cons]
    exact flat_drop L a
theorem flat_take : ∀ (L : List Ent) (a : Nat), (L.flatMap entV).take (a * 2) = (L.take a).flatMap entV
  | [], a => by simp
  | x :: L, 0 => by simp
  | x :: L, a + 1 => by
    rw [show (a + 1) * 2 = a * 2 + 2 by omega, List.take_succ_cons]
    show (entV x ++ L.flatMap entV).take (a * 2 + 2) = _
    rw [show entV x = [.string (mk x.1), .int .i64 x.2] from rfl, List.flatMap_cons, show entV x = [.string (mk x.1), .int .i64 x.2] from rfl]
    simp only [List.cons_append, List.nil_append, List.take_succ_cons]
    rw [flat_take L a]
theorem flat_one (L : List Ent) : ∀ u ∈ L.flatMap entV, u.oneCell' = true := by
  intro u hu
  obtain ⟨x, _, h⟩ := List.mem_flatMap.1 hu
  simp [entV] at h
  rcases h with rfl | rfl <;> rfl
theorem greatT0 (F : List Ent) (k : Nat) (h : k < F.length) : great0 (F.take (k + 1)) = max (great0 (F.take k)) F[k].2 := by
  unfold great0
  rw [List.take_succ_eq_append_getElem h, List.foldl_append]; rfl
theorem and_bd (a : Int) (m : Nat) (hm : m < 4611686018427387904) : 0 ≤ Go.bits .and .i64 a m ∧ Go.bits .and .i64 a m ≤ m := by
  have h : Go.bits .and .i64 a m = IntKind.i64.wrap ((BitVec.ofInt 64 a &&& BitVec.ofInt 64 (m : Int)).toNat : Nat) := rfl
  rw [h, BitVec.toNat_and]
  have h2 := Nat.and_le_right (n := (BitVec.ofInt 64 a).toNat) (m := (BitVec.ofInt 64 (m : Int)).toNat)
  have h3 : (BitVec.ofInt 64 (m : Int)).toNat = m := by rw [BitVec.ofInt_natCast, BitVec.toNat_ofNat, Nat.mod_eq_of_lt (by omega)]
  rw [h3] at h2 ⊢
  rw [IntKind.wrap_i64]
  omega
set_option maxRecDepth 100000 in
set_option maxHeartbeats 8000000 in
theorem little_law (key : List UInt8) (xs : List Ent) (v : Value) (wh m : Int) (w : World) (hE : Env w) (hv : Ents w v xs) (hN : xs.length ≤ 140737488355328) (hT : ∀ x ∈ xs, x.1.length ≤ 9223372036854775807) :
    Calls Tryd.prog 6 #[.agg #[.string (mk key), v, .int .i64 wh, .int .u64 m]] w fun e w' => e = .returned (.bool true) ∧ Below w.heap.size w w' := by
  obtain ⟨i0, hi, hz0, hz1, hz2⟩ := info_parts infoE
  have hbS := (Below.refl _ w).alloc (Nat.le_refl _) (.cells #[.string (mk key), v, .int .i64 wh, .int .u64 m] 56)
  have bS := Blk.new w #[.string (mk key), v, .int .i64 wh, .int .u64 m] 56
  have hvS := hv.below hbS
  have hzS : w.heap.size ≤ (w.alloc (.cells #[.string (mk key), v, .int .i64 wh, .int .u64 m] 56)).heap.size := by simp
  have dA := awake_any _ (hE.below hbS)
  have dF := fun W h => few_any 6 (by omega) xs v W h hN hT
  have hFl := few_len 6 xs
  have hFm : ∀ x ∈ few12 6 xs, x.1.length ≤ 13 := fun x h => few_mem h
  generalize few12 6 xs = F at *
  go_enter Tryd.func6, Tryd.ntmps6
  go_wp2_with (first
    | (go_at_call 7; refine dA.mono ?_; rintro e w1 ⟨rfl, hb1⟩))
  have bS1 := bS.below hb1
  have hv1 := hvS.below hb1
  have ht1 := hbS.trans (hb1.mono hzS)
  have hzB : w.heap.size < w1.heap.size := bS1.lt
  have hSS : ∀ w', Kps w1.heap.size w1 w' → (w'.cell? ⟨w.heap.size, 0, none⟩ = some (.string (mk key)) ∧ w'.cell? ⟨w.heap.size, 1, none⟩ = some v ∧ w'.cell? ⟨w.heap.size, 2, none⟩ = some (.int .i64 wh) ∧ w'.cell? ⟨w.heap.size, 3, none⟩ = some (.int .u64 m) ∧ Kps w1.heap.size w1 w') := fun w' hk => by
    have b := bS1.below hk.1
    exact ⟨b.cell (i := 0) rfl, b.cell (i := 1) rfl, b.cell (i := 2) rfl, b.cell (i := 3) rfl, hk⟩
  have hK0 : Kps w1.heap.size w1 w1.drew := ⟨(Below.refl _ w1).drew, Nat.le_refl _⟩
  have dF' : ∀ W, Kps w1.heap.size w1 W → Calls Tryd.prog 8 #[v, .int .i64 6] W fun e w' => ∃ (A : Option Addr) (cp : Nat), e = .returned (.slice A F.length cp) ∧ w'.ownsRow W.heap.size 46 2 (.slice A F.length cp) F.length (F.flatMap entV) ∧ Below W.heap.size W w' := fun W h => (dF W (hv1.below h.1)).mono (by
    rintro e w' ⟨u, rfl, ho, hb⟩
    obtain ⟨A, cp, rfl, _, _⟩ := row_ents ho
    exact ⟨A, cp, rfl, ho, hb⟩)
  go_region_held3 (fun w' => w'.cell? ⟨w.heap.size, 0, none⟩ = some (.string (mk key)) ∧ w'.cell? ⟨w.heap.size, 1, none⟩ = some v ∧ w'.cell? ⟨w.heap.size, 2, none⟩ = some (.int .i64 wh) ∧ w'.cell? ⟨w.heap.size, 3, none⟩ = some (.int .u64 m) ∧ Kps w1.heap.size w1 w')
    (first
      | exact hSS _ hK0
      | (go_split_ands; exact hSS _ (by assumption))
      | (go_split_ands; refine hSS _ (Kps.call ?_ hb2); assumption))
    (first
      | (go_at_call 8; refine (dF' _ (by go_split_ands; assumption)).mono ?_; rintro e w2 ⟨A, cp, rfl, hown, hb2⟩))
  have hEF := row_ents hown
  have hb2' : Below w1.heap.size w1 w2 := (show Kps w1.heap.size w1 w2 by go_split_ands; assumption).1
  have ht2 := ht1.trans (hb2'.mono (show w.heap.size ≤ w1.heap.size by omega))
  have hE2 : Env w2 := hE.below ht2
  have hb0 : Below w2.heap.size w2 w2 := Below.refl _ _
  obtain ⟨A', c', hAe, hcA, hrF⟩ := id hEF
  cases hAe
  clear hSS hK0 dF' dF dA hb2 hb1 bS1 bS hvS hv1 hbS ht1 hb2' hzS hzB hv hN hT hE
  (try clear hk2)
  go_wp2
  go_loopw [7, 33] (fun gv iv wr => ∃ k : Nat, k ≤ F.length ∧ iv = .int .i64 k ∧ gv = .int .i64 (great0 (F.take k)) ∧ Below w2.heap.size w2 wr) (fun _ iv _ => F.length - (intOf iv).toNat)
  case atStart => exact ⟨0, Nat.zero_le _, rfl, rfl, hb0⟩
  case round =>
    obtain ⟨k, hk, rfl, rfl, hb⟩ := hrel
    have hgs : w2.heap.size ≤ wr.heap.size := hb.size
    by_cases c1 : k < F.length
    · obtain ⟨b, o, rfl, hlt, hx⟩ := hrF (by omega)
      have hx0 := hx k F[k] (by simp [c1])
      have hc0 := (hb.cell (p := ⟨b, o + k * 2, none⟩) (by show b < _; omega)).trans hx0.1
      have hc1 := (hb.cell (p := ⟨b, o + k * 2 + 1, none⟩) (by show b < _; omega)).trans hx0.2
      have hnx := Lib.hid (greatT0 F k c1)
      generalize great0 (F.take k) = gr at *
      generalize F[k] = x at *
      clear hx0 hx
      go_wp2
      go_roundw
      case rel => exact ⟨k + 1, by omega, by go_num, by rw [hnx.out], hb.alloc hgs _⟩
      case measure => simp [intOf]; omega
    · have hkl : F.take k = F := List.take_of_length_le (by omega)
      rw [hkl]
      clear hkl
      have hG := Lib.hid (show great0 F = great0 F from rfl)
      obtain ⟨gr, hgr⟩ : ∃ gr, gr = great0 F := ⟨_, rfl⟩
      rw [← hgr]
      have hgr' := Lib.hid hgr
      clear hgr hG
      have hEr := hEF.below hb
      have dR := refCheck_any F (.slice A F.length cp) wr hEr (by omega)
      have ht3 := ht2.trans (hb.mono ht2.size)
      rcases Classical.em (OkR F) with hok | hok
      case inr =>
        rw [errR_1 hok] at dR
        go_wp2_with (go_at_call 12; (with_reducible refine dR.mono ?_); rintro e w4 ⟨rfl, hb4⟩)
        go_ret
        exact ⟨rfl, bt ht3 hb4⟩
      rw [errR_0 hok] at dR
      by_cases c2 : F.length < 2
      · have c2' : (F.length : Int) < 2 := by omega
        go_wp2_with (go_at_call 12; (with_reducible refine dR.mono ?_); rintro e w4 ⟨rfl, hb4⟩)
        go_ret
        exact ⟨rfl, bt ht3 hb4⟩
      have c2' : ¬ (F.length : Int) < 2 := by omega
      obtain ⟨hw1, hw2⟩ := and_bd wh 65535 (by decide)
      have x3 : ¬ (F.length : Int) = 0 := by omega
      have x4 : ¬ F.length = 0 := by omega
      obtain ⟨kk, hkk, hkl⟩ : ∃ kk : Nat, (Go.bits .and .i64 wh 65535).tmod (F.length : Int) = (kk : Int) ∧ kk < F.length := by
        obtain ⟨n, hn⟩ := Int.eq_ofNat_of_zero_le hw1
        exact ⟨n % F.length, by rw [show (Go.bits .and .i64 wh 65535) = (n : Int) from hn]; rfl, Nat.mod_lt _ (by omega)⟩
      go_wp2_with (go_at_call 12; (with_reducible refine dR.mono ?_); rintro e w4 ⟨rfl, hb4⟩)
      have ho4 := own_below (own_below hown hb) hb4
      have ht4 := bt ht3 hb4
      have hE4 := hEr.below hb4
      have hEn : Env w4 := hE2.below (hb.trans (hb4.mono hb.size))
      rcases id ho4.2 with ⟨_, h0⟩ | ⟨gb, cap', cur, hve, hgb1, hgb2, hcp1, hcp2, hcp3, hcp4⟩
      · omega
      cases hve
      have hgl : gb < w4.heap.size := (Array.getElem?_eq_some_iff.1 hgb2).1
      have hcell : ∀ j u, (F.flatMap entV)[j]? = some u → w4.cell? ⟨gb, j, none⟩ = some u := fun j u hu => by
        have := ho4.cells (g := gb) rfl j u hu
        rwa [Addr.add_mid, Nat.zero_add] at this
      have hnew : (w4.drew.alloc (.cells #[] 46)).ownsRow w4.heap.size 46 2 (.slice (some ⟨w4.heap.size, 0, none⟩) 0 0) 0 [] := World.ownsRow_lit w4.drew #[] 0 (Nat.le_refl _) (by unfold maxLen; omega) rfl
      have hn1 : ∀ j u, ((F.take kk).flatMap entV)[j]? = some u → (w4.drew.alloc (.cells #[] 46)).cell? ((⟨gb, 0, none⟩ : Addr).add j) = some u := fun j u hu => by
        rw [Addr.add_mid, Nat.zero_add]
        refine oldA (w := w4.drew) (hcell j u ?_) hgl _
        rw [← flat_take] at hu
        have hj := (List.getElem?_eq_some_iff.1 hu).1
        rw [List.length_take] at hj
        rw [List.getElem?_take, if_pos (by omega)] at hu
        exact hu
      have hl1 : ((F.take kk).flatMap entV).length = kk * 2 := by rw [flat_len, List.length_take, Nat.min_eq_left (by omega)]
      have hn2 : ∀ W, (w4.drew.alloc (.cells #[] 46)).grownBy W (some w4.heap.size) → ∀ j u, ((F.drop (kk + 1)).flatMap entV)[j]? = some u → W.cell? ((⟨gb, (kk + 1) * 2, none⟩ : Addr).add j) = some u := fun W hg j u hu => by
        rw [Addr.add_mid]
        rw [hg.cell_far ⟨gb, (kk + 1) * 2 + j, none⟩ (by show gb < (w4.drew.alloc _).heap.size; rw [World.size_alloc]; show gb < w4.heap.size + 1; omega) (fun e => by have := Option.some.inj e; simp at this; omega)]
        refine oldA (w := w4.drew) (hcell _ u ?_) hgl _
        rw [← flat_drop, List.getElem?_drop] at hu
        exact hu
      have hl2 : ((F.drop (kk + 1)).flatMap entV).length = (F.length - (kk + 1)) * 2 := by rw [flat_len, List.length_drop]
      have z1 : (0 : Int) ≤ (kk : Int) := by omega
      have z2 : (kk : Int) ≤ (cp : Int) := by omega
      have z3 : IntKind.i64.wrap ((kk : Int) + 1) = (kk : Int) + 1 := IntWalk.i64_in _ (by omega)
      have z4 : (0 : Int) ≤ (kk : Int) + 1 := by omega
      have z5 : (kk : Int) + 1 ≤ (F.length : Int) := by omega
      have z6 : (F.length : Int) ≤ (cp : Int) := by omega
      have hbA : Below w4.heap.size w4 (w4.drew.alloc (.cells #[] 46)) := (Below.refl _ w4).drew.alloc (Nat.le_refl _) _
      have hLf : (lessN F kk).flatMap entV = (F.take kk).flatMap entV ++ (F.drop (kk + 1)).flatMap entV := by unfold lessN; rw [List.flatMap_append]
      obtain ⟨Ln, hLn⟩ : ∃ n, n = (lessN F kk).length := ⟨_, rfl⟩
      have hLn2 : Ln + 1 = F.length := by rw [hLn]; unfold lessN; rw [List.length_append, List.length_take, List.length_drop]; omega
      have hLn' := Lib.hid hLn
      clear hLn
      by_cases hca : cp = kk + 1
      · have hLf2 : (F.take kk).flatMap entV ++ [] = (lessN F kk).flatMap entV := by rw [hLf, List.drop_of_length_le (by omega)]; rfl
        subst hca
        have y1 : (kk : Int) ≤ (kk : Int) + 1 := by omega
        have y2 : (F.length : Int) ≤ (kk : Int) + 1 := by omega
        have y3 : F.length - (kk + 1) = 0 := by omega
        have y4 : F.length ≤ kk + 1 := by omega
        go_region_law (first
          | (refine step_append_own (by rfl) _ _ _ (by rfl) w4.heap.size 46 i0 _ 2 24 Tryd.underlying22 hi hz0 hz1 hz2 rfl (by omega) (.slice (some ⟨w4.heap.size, 0, none⟩) 0 0) 0 _ (by rfl) hnew ⟨gb, 0, none⟩ kk (kk + 1) ((F.take kk).flatMap entV) (by rfl) hl1 hn1 (flat_one _) (by unfold maxLen; omega) (by omega) (by simp) ?_; intro v38 w38 hown38 hgrow38; rw [Nat.zero_add, List.nil_append] at hown38; obtain ⟨A38, c38, rfl⟩ := row_slice hown38; have hb38 := grow_low hbA (show w4.heap.size ≤ (w4.drew.alloc _).heap.size by simp) hgrow38 (fun b e => by have := Option.some.inj e; simp at this; omega))
          | (refine step_append_own (by rfl) _ _ _ (by rfl) w4.heap.size 46 i0 _ 2 24 Tryd.underlying22 hi hz0 hz1 hz2 rfl (by omega) (.slice A38 kk c38) kk _ (by rfl) hown38 ⟨gb, 0, none⟩ 0 0 ([] : List Value) (by rfl) rfl (by intro j u hu; simp at hu) (by intro u hu; simp at hu) (by unfold maxLen; omega) (by omega) (by have := hgrow38.size; simp at this; omega) ?_; intro v39 w39 hown39 hgrow39; rw [show kk + 0 = Ln by omega, hLf2] at hown39; obtain ⟨A39, c39, rfl⟩ := row_slice hown39; have hb39 := grow_low hb38 (by have := hgrow38.size; simp at this; omega) hgrow39 (fun b e => (hown38.lt b e).1))
          | fail)
        clear hn1 hn2 hl1 hl2 hnew hcell hbA z1 z2 z3 z4 z5 z6 hb38
        rw [hLn'.out] at hown39
        have hE39 := row_ents hown39
        have hrL : 0 < Ln → ∃ b o, A39 = some ⟨b, o, none⟩ ∧ b < w39.heap.size ∧ ∀ j x, (lessN F kk)[j]? = some x → w39.cell? ⟨b, o + j * 2, none⟩ = some (.string (mk x.1)) ∧ w39.cell? ⟨b, o + j * 2 + 1, none⟩ = some (.int .i64 x.2) := by
          obtain ⟨A', c', hAe, h1, h2⟩ := hE39
          cases hAe
          rw [hLn'.out]
          exact h2
        rw [← hLn'.out] at hE39
        have ht39 := bt ht4 hb39
        have hEn39 : Env w39 := hEn.below hb39
        have hF39 := hE4.below hb39
        have hg39 : w4.heap.size ≤ w39.heap.size := hb39.size
        have hb390 : Below w39.heap.size w39 w39 := Below.refl _ _
        go_wp2
        go_loopw [11, 67] (fun gv iv wr => ∃ k : Nat, k ≤ Ln ∧ iv = .int .i64 k ∧ gv = .int .i64 (great0 ((lessN F kk).take k)) ∧ Below w39.heap.size w39 wr) (fun _ iv _ => Ln - (intOf iv).toNat)
        case atStart => exact ⟨0, Nat.zero_le _, rfl, rfl, hb390⟩
        case round =>
          obtain ⟨k2, hk2, rfl, rfl, hb⟩ := hrel
          have hgs : w39.heap.size ≤ wr.heap.size := hb.size
          by_cases c5 : k2 < Ln
          · obtain ⟨b, o, rfl, hlt, hx⟩ := hrL (by omega)
            have hxg : (lessN F kk)[k2]? = some ((lessN F kk)[k2]'(by rw [← hLn'.out]; omega)) := List.getElem?_eq_getElem _
            have hnx := Lib.hid (greatT0 (lessN F kk) k2 (by rw [← hLn'.out]; omega))
            have hx0 := hx k2 _ hxg
            generalize (lessN F kk)[k2]'(by rw [← hLn'.out]; omega) = x at *
            have hc0 := (hb.cell (p := ⟨b, o + k2 * 2, none⟩) (by show b < _; omega)).trans hx0.1
            have hc1 := (hb.cell (p := ⟨b, o + k2 * 2 + 1, none⟩) (by show b < _; omega)).trans hx0.2
            generalize great0 ((lessN F kk).take k2) = gr2 at *
            clear hx0 hx hxg
            have c5' : (k2 : Int) < (Ln : Int) := by omega
            go_wp2
            go_roundw
            case rel => exact ⟨k2 + 1, by omega, by go_num, by rw [hnx.out], hb.alloc hgs _⟩
            case measure => simp [intOf]; omega
          · have hkl2 : (lessN F kk).take k2 = lessN F kk := List.take_of_length_le (by rw [← hLn'.out]; omega)
            rw [hkl2]
            clear hkl2
            have c5' : ¬ (k2 : Int) < (Ln : Int) := by omega
            obtain ⟨gr2, hgr2⟩ : ∃ gr2, gr2 = great0 (lessN F kk) := ⟨_, rfl⟩
            rw [← hgr2]
            have hgr2' := Lib.hid hgr2
            clear hgr2
            by_cases c6 : gr2 = gr
            case neg =>
              go_wp2
              go_ret
              exact ⟨rfl, bt ht39 hb⟩
            have hgg := Lib.hid (show great0 (lessN F kk) = great0 F by rw [← hgr2'.out, ← hgr'.out, c6])
            have htr := bt ht39 hb
            have hFr := hF39.below hb
            have hLr := hE39.below hb
            have hEr2 := hEn39.below hb
            have hokL := less_ok hok kk
            have hLm : ∀ x ∈ lessN F kk, x.1.length ≤ 13 := fun x hx => hFm x (by
              unfold lessN at hx
              rcases List.mem_append.1 hx with h | h
              · exact List.mem_of_mem_take h
              · exact List.mem_of_mem_drop h)
            have hKl := keyL_len key
            have dK0 := fun W => keyOf_any key W
            generalize keyL key = K at *
            obtain ⟨k0, k1, k2, k3, k4, k5, k6, k7, k8, k9, k10, k11, k12, k13, k14, k15, rfl⟩ := list16 hKl
            have dK : ∀ W, Calls Tryd.prog 9 #[.string (mk key)] W fun e w' => e = .returned (.agg #[.int .u8 (k0.toNat : Int), .int .u8 (k1.toNat : Int), .int .u8 (k2.toNat : Int), .int .u8 (k3.toNat : Int), .int .u8 (k4.toNat : Int), .int .u8 (k5.toNat : Int), .int .u8 (k6.toNat : Int), .int .u8 (k7.toNat : Int), .int .u8 (k8.toNat : Int), .int .u8 (k9.toNat : Int), .int .u8 (k10.toNat : Int), .int .u8 (k11.toNat : Int), .int .u8 (k12.toNat : Int), .int .u8 (k13.toNat : Int), .int .u8 (k14.toNat : Int), .int .u8 (k15.toNat : Int)]) ∧ Below W.heap.size W w' := fun W => dK0 W
            clear dK0
            clear hb hF39 hE39 hEn39 hg39 hb390 hrL hrF hb39 ht39 hgrow38 hgrow39 hown38 hown39
            go_wp2_with (go_at_call 9; refine (dK _).mono ?_; rintro e w50 ⟨rfl, hb50⟩)
            have hky := bytesRange (show BytesAt (w50.alloc (.cells #[.int .u8 (k0.toNat : Int), .int .u8 (k1.toNat : Int), .int .u8 (k2.toNat : Int), .int .u8 (k3.toNat : Int), .int .u8 (k4.toNat : Int), .int .u8 (k5.toNat : Int), .int .u8 (k6.toNat : Int), .int .u8 (k7.toNat : Int), .int .u8 (k8.toNat : Int), .int .u8 (k9.toNat : Int), .int .u8 (k10.toNat : Int), .int .u8 (k11.toNat : Int), .int .u8 (k12.toNat : Int), .int .u8 (k13.toNat : Int), .int .u8 (k14.toNat : Int), .int .u8 (k15.toNat : Int)] 26)) w50.heap.size [k0, k1, k2, k3, k4, k5, k6, k7, k8, k9, k10, k11, k12, k13, k14, k15] 26 from blkNew _ _)
            have hb51 := (Below.refl _ w50).alloc (Nat.le_refl _) (.cells #[.int .u8 (k0.toNat : Int), .int .u8 (k1.toNat : Int), .int .u8 (k2.toNat : Int), .int .u8 (k3.toNat : Int), .int .u8 (k4.toNat : Int), .int .u8 (k5.toNat : Int), .int .u8 (k6.toNat : Int), .int .u8 (k7.toNat : Int), .int .u8 (k8.toNat : Int), .int .u8 (k9.toNat : Int), .int .u8 (k10.toNat : Int), .int .u8 (k11.toNat : Int), .int .u8 (k12.toNat : Int), .int .u8 (k13.toNat : Int), .int .u8 (k14.toNat : Int), .int .u8 (k15.toNat : Int)] 26)
            have hF5 := (hFr.below hb50).below hb51
            have hL5 := (hLr.below hb50).below hb51
            have he5 := (hEr2.below hb50).below hb51
            have ht5 := bt (bt htr hb50) hb51
            have hz5 : w50.heap.size < (w50.alloc (.cells #[.int .u8 (k0.toNat : Int), .int .u8 (k1.toNat : Int), .int .u8 (k2.toNat : Int), .int .u8 (k3.toNat : Int), .int .u8 (k4.toNat : Int), .int .u8 (k5.toNat : Int), .int .u8 (k6.toNat : Int), .int .u8 (k7.toNat : Int), .int .u8 (k8.toNat : Int), .int .u8 (k9.toNat : Int), .int .u8 (k10.toNat : Int), .int .u8 (k11.toNat : Int), .int .u8 (k12.toNat : Int), .int .u8 (k13.toNat : Int), .int .u8 (k14.toNat : Int), .int .u8 (k15.toNat : Int)] 26)).heap.size := by simp
            generalize w50.alloc (.cells #[.int .u8 (k0.toNat : Int), .int .u8 (k1.toNat : Int), .int .u8 (k2.toNat : Int), .int .u8 (k3.toNat : Int), .int .u8 (k4.toNat : Int), .int .u8 (k5.toNat : Int), .int .u8 (k6.toNat : Int), .int .u8 (k7.toNat : Int), .int .u8 (k8.toNat : Int), .int .u8 (k9.toNat : Int), .int .u8 (k10.toNat : Int), .int .u8 (k11.toNat : Int), .int .u8 (k12.toNat : Int), .int .u8 (k13.toNat : Int), .int .u8 (k14.toNat : Int), .int .u8 (k15.toNat : Int)] 26) = w5 at *
            generalize ([k0, k1, k2, k3, k4, k5, k6, k7, k8, k9, k10, k11, k12, k13, k14, k15] : List UInt8) = K at *
            generalize w50.heap.size = q at *
            have hcsz : (Tryd.prog.info? 26).map (·.size) = some (keyV K).length := by
              rw [show (keyV K).length = 16 by unfold keyV; rw [List.length_map, hKl]]; kernel_rfl
            have hcu := Tryd.underlying26
            have hSS : ∀ w', Kps w5.heap.size w5 w' → (w'.rangeAt q 0 (keyV K) ∧ Kps w5.heap.size w5 w') := fun w' hk => ⟨hk.range hz5 hky, hk⟩
            have hK0 : Kps w5.heap.size w5 w5.drew := ⟨(Below.refl _ w5).drew, Nat.le_refl _⟩
            have dO1 : ∀ W, Kps w5.heap.size w5 W → Calls Tryd.prog 11 #[.slice (some ⟨gb, 0, none⟩) F.length (kk + 1)] W fun e w' => ∃ (A5 : Option Addr) (c5 : Nat), e = .returned (.slice A5 F.length c5) ∧ Ents w' (.slice A5 F.length c5) F ∧ Below W.heap.size W w' := fun W h => (own_any F (.slice (some ⟨gb, 0, none⟩) F.length (kk + 1)) W (hF5.below h.1) (by omega)).mono (by
              rintro e w' ⟨u, rfl, ho, hb⟩
              have hE := row_ents ho
              obtain ⟨A5, c5, rfl⟩ := row_slice ho
              exact ⟨A5, c5, rfl, hE, hb⟩)
            have dB1 : ∀ (v' : Value) (W : World), Kps w5.heap.size w5 W → Ents W v' F → Calls Tryd.prog 10 #[.agg (keyV K).toArray, v', .int .i64 10] W fun e w' => Below W.heap.size W w' ∧ ∃ (rb : Nat) (ys : List Pt), e = .returned (.tuple #[.pointer (some ⟨rb, 0, none⟩), .int .i64 0]) ∧ ys.Perm (ptsAll K 10 F) ∧ SrtP ys ∧ Rng w' rb ys ∧ W.heap.size ≤ rb := fun v' W hk h => build_ok K hKl F hok 10 v' W h (fun x hx => by have := hFm x hx; omega) (he5.below hk.1)
            go_region_held3 (fun w' => w'.rangeAt q 0 (keyV K) ∧ Kps w5.heap.size w5 w')
              (first
                | exact hSS _ hK0
                | (go_split_ands; exact hSS _ (by assumption))
                | (go_split_ands; refine hSS _ (Kps.call ?_ hb6); assumption)
                | (go_split_ands; refine hSS _ (Kps.call ?_ hb7); assumption))
              (first
                | (go_at_call 11; refine (dO1 _ (by go_split_ands; assumption)).mono ?_; rintro e w6 ⟨A6, c6, rfl, hE6, hb6⟩; have hk6 := hK0.call hb6)
                | (go_at_call 10; refine (dB1 _ _ hk6 hE6).mono ?_; rintro e w7 ⟨hb7, rb1, ys, rfl, hp1, hs1, hR7, htb1⟩))
            have hk7 : Kps w5.heap.size w5 w7 := by go_split_ands; assumption
            clear dO1 dB1 hE6
            have hK7 : Kps w5.heap.size w5 w7.drew := ⟨hk7.1.drew, hk7.2⟩
            have hokL := less_ok hok kk
            have hLm : ∀ x ∈ lessN F kk, x.1.length ≤ 13 := fun x hx => hFm x (by
              unfold lessN at hx
              rcases List.mem_append.1 hx with h | h
              · exact List.mem_of_mem_take h
              · exact List.mem_of_mem_drop h)
            have dO2 : ∀ W, Kps w5.heap.size w5 W → Calls Tryd.prog 11 #[.slice A39 Ln c39] W fun e w' => ∃ (A5 : Option Addr) (n5 c5 : Nat), e = .returned (.slice A5 n5 c5) ∧ Ents w' (.slice A5 n5 c5) (lessN F kk) ∧ Below W.heap.size W w' := fun W h => (own_any (lessN F kk) (.slice A39 Ln c39) W (hL5.below h.1) (by rw [← hLn'.out]; omega)).mono (by
              rintro e w' ⟨u, rfl, ho, hb⟩
              have hE := row_ents ho
              obtain ⟨A5, c5, rfl⟩ := row_slice ho
              exact ⟨A5, _, c5, rfl, hE, hb⟩)
            have dB2 : ∀ (v' : Value) (W : World), Kps w5.heap.size w5 W → Ents W v' (lessN F kk) → Calls Tryd.prog 10 #[.agg (keyV K).toArray, v', .int .i64 10] W fun e w' => Below W.heap.size W w' ∧ ∃ (rb : Nat) (ys : List Pt), e = .returned (.tuple #[.pointer (some ⟨rb, 0, none⟩), .int .i64 0]) ∧ ys.Perm (ptsAll K 10 (lessN F kk)) ∧ SrtP ys ∧ Rng w' rb ys ∧ W.heap.size ≤ rb := fun v' W hk h => build_ok K hKl (lessN F kk) hokL 10 v' W h (fun x hx => by have := hLm x hx; omega) (he5.below hk.1)
            clear hb6 hb7 hk6 hK0
            go_wp2
            go_region_held3 (fun w' => w'.rangeAt q 0 (keyV K) ∧ Kps w5.heap.size w5 w')
              (first
                | exact hSS _ hK7
                | (go_split_ands; exact hSS _ (by assumption))
                | (go_split_ands; refine hSS _ (Kps.call ?_ hb8); assumption)
                | (go_split_ands; refine hSS _ (Kps.call ?_ hb9); assumption))
              (first
                | (go_at_call 11; refine (dO2 _ (by go_split_ands; assumption)).mono ?_; rintro e w8 ⟨A8, n8, c8, rfl, hE8, hb8⟩; have hk8 := hK7.call hb8)
                | (go_at_call 10; refine (dB2 _ _ hk8 hE8).mono ?_; rintro e w54 ⟨hb9, rb2, zs, rfl, hp2, hs2, hR54, htb2⟩))
            have hk54 : Kps w5.heap.size w5 w54 := by go_split_ands; assumption
            have hF54 := hF5.below hk54.1
            have hR1 := ((hR7.below (Below.refl _ w7).drew).below hb8).below hb9
            have ht54 := ht5.trans (hk54.1.mono ht5.size)
            have hyl : ys.length ≤ 262144 := by rw [hp1.length_eq]; exact pts_len K _ F hok
            have hzl : zs.length ≤ 262144 := by rw [hp2.length_eq]; exact pts_len K _ (lessN F kk) hokL
            have hnl : ∀ p ∈ ys, p.2.length ≤ 1000 := pts_names hp1 hFm
            obtain ⟨hWl, d0, d1, t, hWe, hpk⟩ := little K 10 F hok kk hkl (by omega) hgg.out ys zs hp1 hs1 hp2 hs2 m
            have dW := fun W h => walk_any ys hs1 m rb1 W h (by omega) hnl
            have dP := fun W h => pick_any zs hs2 m rb2 W h (by omega)
            generalize walkF (roundL ys (fromN ys m)) = WR at *
            have hF54c : ∀ W, Below w54.heap.size w54 W → W.cell? ⟨gb, kk * 2, none⟩ = some (.string (mk F[kk].1)) ∧ W.cell? ⟨gb, kk * 2 + 1, none⟩ = some (.int .i64 F[kk].2) := fun W hB => by
              obtain ⟨A', c', hAe, h1, h2⟩ := hF54.below hB
              cases hAe
              obtain ⟨b', o', hbo, h3, h4⟩ := h2 (by omega)
              cases hbo
              have := h4 kk F[kk] (List.getElem?_eq_getElem hkl)
              simpa using this
            have z10 : (kk : Int) < (F.length : Int) := by omega
            have z11 : (0 : Int) ≤ (kk : Int) := by omega
            clear dO2 dB2 hE8 hSS hK7 hky hk8 hb8 hb9 hp1 hp2 hR7 hnl hokL hLm he5 hL5 hF5 ht5
            go_wp2_with (go_at_call 19; (with_reducible refine (dW _ hR1).mono ?_); rintro e w55 ⟨u55, rfl, ho55, hb55⟩
                         obtain ⟨A55, c55, rfl⟩ := row_slice ho55
                         unfold OwnStrs at ho55
                         rw [hWl] at ho55 ⊢
                         have hfc1 := (hF54c _ hb55).1
                         have hfc2 := (hF54c _ hb55).2)
            rcases id ho55.2 with ⟨_, h0⟩ | ⟨g5, cap5, cur5, hv5, hg51, hg52, hc51, hc52, hc53, hc54⟩
            · omega
            cases hv5
            subst hWe
            have hg5l : g5 < w55.heap.size := (Array.getElem?_eq_some_iff.1 hg52).1
            have hcw0 : w55.cell? ⟨g5, 0, none⟩ = some (.string (mk d0)) := by
              have := ho55.cells (g := g5) rfl 0 (.string (mk d0)) rfl
              rwa [Addr.add_mid] at this
            have hcw1 : w55.cell? ⟨g5, 1, none⟩ = some (.string (mk d1)) := by
              have := ho55.cells (g := g5) rfl 1 (.string (mk d1)) rfl
              rwa [Addr.add_mid] at this
            have ht55 := bt ht54 hb55
            have hR55 := hR54.below hb55
            have y5 : (1 : Int) ≤ (F.length : Int) := by omega
            have y6 : (0 : Int) < (F.length : Int) := by omega
            have y7 : (F.length : Int) ≤ (c55 : Int) := by omega
            have y8 : ¬ c55 = 1 := by omega
            have y9 : 1 < F.length := by omega
            have y10 : 0 < F.length := by omega
            have y11 : (0 : Int) < ((F.length - 1 : Nat) : Int) := by omega
            have y12 : 0 < F.length - 1 := by omega
            generalize F[kk].1 = nk at *
            generalize F[kk].2 = nw at *
            clear hR1 dW ho55 hF54 hF54c hb55 ht54 hR54 hWl hyl hg52 hc53 hc54
            by_cases c7 : d0 = nk
            · have ht7 : ((mk d0).toList == (mk nk).toList) = true := by rw [mk_eq, decide_eq_true c7]
              rw [hpk, if_pos c7] at dP
              clear hpk
              have htest : ((mk d1).toList == (mk d1).toList) = true := by rw [mk_eq, decide_eq_true rfl]
              have hKd : ∀ n, Kps w55.heap.size w55 (w55.drewN n).drew := fun n => ⟨(below_drewN (Below.refl _ w55) n).drew, Nat.le_refl _⟩
              have hSS : ∀ w', Kps w55.heap.size w55 w' → (w'.cell? ⟨g5, 1, none⟩ = some (.string (mk d1)) ∧ Kps w55.heap.size w55 w') := fun w' h => ⟨h.cell hg5l hcw1, h⟩
              have dP' := fun W (h : Kps w55.heap.size w55 W) => dP W (hR55.below h.1)
              clear dP hR55
              go_wp2
              go_quiet (fail)
              go_wp2
              go_region_held3 (fun w' => w'.cell? ⟨g5, 1, none⟩ = some (.string (mk d1)) ∧ Kps w55.heap.size w55 w')
                (first
                  | exact hSS _ (hKd _)
                  | (go_split_ands; exact hSS _ (by assumption))
                  | (go_split_ands; refine hSS _ (Kps.call ?_ hb56); assumption))
                ((go_at_call 17; refine (dP' _ (by go_split_ands; assumption)).mono ?_; rintro e w56 ⟨rfl, hb56⟩))
              have hk56 : Kps w55.heap.size w55 w56 := by go_split_ands; assumption
              go_wp2
              go_ret
              exact ⟨by first | rfl | exact ret_bool htest | (show Ending.returned (Value.bool _) = _; rw [htest]), bt ht55 hk56.1⟩
            · have ht7 : ((mk d0).toList == (mk nk).toList) = false := by rw [mk_eq, decide_eq_false c7]
              rw [hpk, if_neg c7] at dP
              clear hpk
              have htest : ((mk d0).toList == (mk d0).toList) = true := by rw [mk_eq, decide_eq_true rfl]
              have hKd : ∀ n, Kps w55.heap.size w55 (w55.drewN n).drew := fun n => ⟨(below_drewN (Below.refl _ w55) n).drew, Nat.le_refl _⟩
              have hSS : ∀ w', Kps w55.heap.size w55 w' → (w'.cell? ⟨g5, 0, none⟩ = some (.string (mk d0)) ∧ Kps w55.heap.size w55 w') := fun w' h => ⟨h.cell hg5l hcw0, h⟩
              have dP' := fun W (h : Kps w55.heap.size w55 W) => dP W (hR55.below h.1)
              clear dP hR55
              go_wp2
              go_quiet (fail)
              go_wp2
              go_region_held3 (fun w' => w'.cell? ⟨g5, 0, none⟩ = some (.string (mk d0)) ∧ Kps w55.heap.size w55 w')
                (first
                  | exact hSS _ (hKd _)
                  | (go_split_ands; exact hSS _ (by assumption))
                  | (go_split_ands; refine hSS _ (Kps.call ?_ hb56); assumption))
                ((go_at_call 17; refine (dP' _ (by go_split_ands; assumption)).mono ?_; rintro e w56 ⟨rfl, hb56⟩))
              have hk56 : Kps w55.heap.size w55 w56 := by go_split_ands; assumption
              go_wp2
              go_ret
              exact ⟨by first | rfl | exact ret_bool htest | (show Ending.returned (Value.bool _) = _; rw [htest]), bt ht55 hk56.1⟩
      · go_region_law (first
          | (refine step_append_own (by rfl) _ _ _ (by rfl) w4.heap.size 46 i0 _ 2 24 Tryd.underlying22 hi hz0 hz1 hz2 rfl (by omega) (.slice (some ⟨w4.heap.size, 0, none⟩) 0 0) 0 _ (by rfl) hnew ⟨gb, 0, none⟩ kk cp ((F.take kk).flatMap entV) (by rfl) hl1 hn1 (flat_one _) (by unfold maxLen; omega) (by omega) (by simp) ?_; intro v38 w38 hown38 hgrow38; rw [Nat.zero_add, List.nil_append] at hown38; obtain ⟨A38, c38, rfl⟩ := row_slice hown38; have hb38 := grow_low hbA (show w4.heap.size ≤ (w4.drew.alloc _).heap.size by simp) hgrow38 (fun b e => by have := Option.some.inj e; simp at this; omega))
          | (refine step_append_own (by rfl) _ _ _ (by rfl) w4.heap.size 46 i0 _ 2 24 Tryd.underlying22 hi hz0 hz1 hz2 rfl (by omega) (.slice A38 kk c38) kk _ (by rfl) hown38 ⟨gb, (kk + 1) * 2, none⟩ (F.length - (kk + 1)) (cp - (kk + 1)) ((F.drop (kk + 1)).flatMap entV) (by rfl) hl2 (hn2 _ hgrow38) (flat_one _) (by unfold maxLen; omega) (by omega) (by have := hgrow38.size; simp at this; omega) ?_; intro v39 w39 hown39 hgrow39; rw [show kk + (F.length - (kk + 1)) = Ln by omega, ← hLf] at hown39; obtain ⟨A39, c39, rfl⟩ := row_slice hown39; have hb39 := grow_low hb38 (by have := hgrow38.size; simp at this; omega) hgrow39 (fun b e => (hown38.lt b e).1))
          | fail)
        clear hn1 hn2 hl1 hl2 hnew hcell hbA z1 z2 z3 z4 z5 z6 hb38
        rw [hLn'.out] at hown39
        have hE39 := row_ents hown39
        have hrL : 0 < Ln → ∃ b o, A39 = some ⟨b, o, none⟩ ∧ b < w39.heap.size ∧ ∀ j x, (lessN F kk)[j]? = some x → w39.cell? ⟨b, o + j * 2, none⟩ = some (.string (mk x.1)) ∧ w39.cell? ⟨b, o + j * 2 + 1, none⟩ = some (.int .i64 x.2) := by
          obtain ⟨A', c', hAe, h1, h2⟩ := hE39
          cases hAe
          rw [hLn'.out]
          exact h2
        rw [← hLn'.out] at hE39
        have ht39 := bt ht4 hb39
        have hEn39 : Env w39 := hEn.below hb39
        have hF39 := hE4.below hb39
        have hg39 : w4.heap.size ≤ w39.heap.size := hb39.size
        have hb390 : Below w39.heap.size w39 w39 := Below.refl _ _
        go_wp2
        go_loopw [11, 67] (fun gv iv wr => ∃ k : Nat, k ≤ Ln ∧ iv = .int .i64 k ∧ gv = .int .i64 (great0 ((lessN F kk).take k)) ∧ Below w39.heap.size w39 wr) (fun _ iv _ => Ln - (intOf iv).toNat)
        case atStart => exact ⟨0, Nat.zero_le _, rfl, rfl, hb390⟩
        case round =>
          obtain ⟨k2, hk2, rfl, rfl, hb⟩ := hrel
          have hgs : w39.heap.size ≤ wr.heap.size := hb.size
          by_cases c5 : k2 < Ln
          · obtain ⟨b, o, rfl, hlt, hx⟩ := hrL (by omega)
            have hxg : (lessN F kk)[k2]? = some ((lessN F kk)[k2]'(by rw [← hLn'.out]; omega)) := List.getElem?_eq_getElem _
            have hnx := Lib.hid (greatT0 (lessN F kk) k2 (by rw [← hLn'.out]; omega))
            have hx0 := hx k2 _ hxg
            generalize (lessN F kk)[k2]'(by rw [← hLn'.out]; omega) = x at *
            have hc0 := (hb.cell (p := ⟨b, o + k2 * 2, none⟩) (by show b < _; omega)).trans hx0.1
            have hc1 := (hb.cell (p := ⟨b, o + k2 * 2 + 1, none⟩) (by show b < _; omega)).trans hx0.2
            generalize great0 ((lessN F kk).take k2) = gr2 at *
            clear hx0 hx hxg
            have c5' : (k2 : Int) < (Ln : Int) := by omega
            go_wp2
            go_roundw
            case rel => exact ⟨k2 + 1, by omega, by go_num, by rw [hnx.out], hb.alloc hgs _⟩
            case measure => simp [intOf]; omega
          · have hkl2 : (lessN F kk).take k2 = lessN F kk := List.take_of_length_le (by rw [← hLn'.out]; omega)
            rw [hkl2]
            clear hkl2
            have c5' : ¬ (k2 : Int) < (Ln : Int) := by omega
            obtain ⟨gr2, hgr2⟩ : ∃ gr2, gr2 = great0 (lessN F kk) := ⟨_, rfl⟩
            rw [← hgr2]
            have hgr2' := Lib.hid hgr2
            clear hgr2
            by_cases c6 : gr2 = gr
            case neg =>
              go_wp2
              go_ret
              exact ⟨rfl, bt ht39 hb⟩
            have hgg := Lib.hid (show great0 (lessN F kk) = great0 F by rw [← hgr2'.out, ← hgr'.out, c6])
            have htr := bt ht39 hb
            have hFr := hF39.below hb
            have hLr := hE39.below hb
            have hEr2 := hEn39.below hb
            have hokL := less_ok hok kk
            have hLm : ∀ x ∈ lessN F kk, x.1.length ≤ 13 := fun x hx => hFm x (by
              unfold lessN at hx
              rcases List.mem_append.1 hx with h | h
              · exact List.mem_of_mem_take h
              · exact List.mem_of_mem_drop h)
            have hKl := keyL_len key
            have dK0 := fun W => keyOf_any key W
            generalize keyL key = K at *
            obtain ⟨k0, k1, k2, k3, k4, k5, k6, k7, k8, k9, k10, k11, k12, k13, k14, k15, rfl⟩ := list16 hKl
            have dK : ∀ W, Calls Tryd.prog 9 #[.string (mk key)] W fun e w' => e = .returned (.agg #[.int .u8 (k0.toNat : Int), .int .u8 (k1.toNat : Int), .int .u8 (k2.toNat : Int), .int .u8 (k3.toNat : Int), .int .u8 (k4.toNat : Int), .int .u8 (k5.toNat : Int), .int .u8 (k6.toNat : Int), .int .u8 (k7.toNat : Int), .int .u8 (k8.toNat : Int), .int .u8 (k9.toNat : Int), .int .u8 (k10.toNat : Int), .int .u8 (k11.toNat : Int), .int .u8 (k12.toNat : Int), .int .u8 (k13.toNat : Int), .int .u8 (k14.toNat : Int), .int .u8 (k15.toNat : Int)]) ∧ Below W.heap.size W w' := fun W => dK0 W
            clear dK0
            clear hb hF39 hE39 hEn39 hg39 hb390 hrL hrF hb39 ht39 hgrow38 hgrow39 hown38 hown39
            go_wp2_with (go_at_call 9; refine (dK _).mono ?_; rintro e w50 ⟨rfl, hb50⟩)
            have hky := bytesRange (show BytesAt (w50.alloc (.cells #[.int .u8 (k0.toNat : Int), .int .u8 (k1.toNat : Int), .int .u8 (k2.toNat : Int), .int .u8 (k3.toNat : Int), .int .u8 (k4.toNat : Int), .int .u8 (k5.toNat : Int), .int .u8 (k6.toNat : Int), .int .u8 (k7.toNat : Int), .int .u8 (k8.toNat : Int), .int .u8 (k9.toNat : Int), .int .u8 (k10.toNat : Int), .int .u8 (k11.toNat : Int), .int .u8 (k12.toNat : Int), .int .u8 (k13.toNat : Int), .int .u8 (k14.toNat : Int), .int .u8 (k15.toNat : Int)] 26)) w50.heap.size [k0, k1, k2, k3, k4, k5, k6, k7, k8, k9, k10, k11, k12, k13, k14, k15] 26 from blkNew _ _)
            have hb51 := (Below.refl _ w50).alloc (Nat.le_refl _) (.cells #[.int .u8 (k0.toNat : Int), .int .u8 (k1.toNat : Int), .int .u8 (k2.toNat : Int), .int .u8 (k3.toNat : Int), .int .u8 (k4.toNat : Int), .int .u8 (k5.toNat : Int), .int .u8 (k6.toNat : Int), .int .u8 (k7.toNat : Int), .int .u8 (k8.toNat : Int), .int .u8 (k9.toNat : Int), .int .u8 (k10.toNat : Int), .int .u8 (k11.toNat : Int), .int .u8 (k12.toNat : Int), .int .u8 (k13.toNat : Int), .int .u8 (k14.toNat : Int), .int .u8 (k15.toNat : Int)] 26)
            have hF5 := (hFr.below hb50).below hb51
            have hL5 := (hLr.below hb50).below hb51
            have he5 := (hEr2.below hb50).below hb51
            have ht5 := bt (bt htr hb50) hb51
            have hz5 : w50.heap.size < (w50.alloc (.cells #[.int .u8 (k0.toNat : Int), .int .u8 (k1.toNat : Int), .int .u8 (k2.toNat : Int), .int .u8 (k3.toNat : Int), .int .u8 (k4.toNat : Int), .int .u8 (k5.toNat : Int), .int .u8 (k6.toNat : Int), .int .u8 (k7.toNat : Int), .int .u8 (k8.toNat : Int), .int .u8 (k9.toNat : Int), .int .u8 (k10.toNat : Int), .int .u8 (k11.toNat : Int), .int .u8 (k12.toNat : Int), .int .u8 (k13.toNat : Int), .int .u8 (k14.toNat : Int), .int .u8 (k15.toNat : Int)] 26)).heap.size := by simp
            generalize w50.alloc (.cells #[.int .u8 (k0.toNat : Int), .int .u8 (k1.toNat : Int), .int .u8 (k2.toNat : Int), .int .u8 (k3.toNat : Int), .int .u8 (k4.toNat : Int), .int .u8 (k5.toNat : Int), .int .u8 (k6.toNat : Int), .int .u8 (k7.toNat : Int), .int .u8 (k8.toNat : Int), .int .u8 (k9.toNat : Int), .int .u8 (k10.toNat : Int), .int .u8 (k11.toNat : Int), .int .u8 (k12.toNat : Int), .int .u8 (k13.toNat : Int), .int .u8 (k14.toNat : Int), .int .u8 (k15.toNat : Int)] 26) = w5 at *
            generalize ([k0, k1, k2, k3, k4, k5, k6, k7, k8, k9, k10, k11, k12, k13, k14, k15] : List UInt8) = K at *
            generalize w50.heap.size = q at *
            have hcsz : (Tryd.prog.info? 26).map (·.size) = some (keyV K).length := by
              rw [show (keyV K).length = 16 by unfold keyV; rw [List.length_map, hKl]]; kernel_rfl
            have hcu := Tryd.underlying26
            have hSS : ∀ w', Kps w5.heap.size w5 w' → (w'.rangeAt q 0 (keyV K) ∧ Kps w5.heap.size w5 w') := fun w' hk => ⟨hk.range hz5 hky, hk⟩
            have hK0 : Kps w5.heap.size w5 w5.drew := ⟨(Below.refl _ w5).drew, Nat.le_refl _⟩
            have dO1 : ∀ W, Kps w5.heap.size w5 W → Calls Tryd.prog 11 #[.slice (some ⟨gb, 0, none⟩) F.length cp] W fun e w' => ∃ (A5 : Option Addr) (c5 : Nat), e = .returned (.slice A5 F.length c5) ∧ Ents w' (.slice A5 F.length c5) F ∧ Below W.heap.size W w' := fun W h => (own_any F (.slice (some ⟨gb, 0, none⟩) F.length cp) W (hF5.below h.1) (by omega)).mono (by
              rintro e w' ⟨u, rfl, ho, hb⟩
              have hE := row_ents ho
              obtain ⟨A5, c5, rfl⟩ := row_slice ho
              exact ⟨A5, c5, rfl, hE, hb⟩)
            have dB1 : ∀ (v' : Value) (W : World), Kps w5.heap.size w5 W → Ents W v' F → Calls Tryd.prog 10 #[.agg (keyV K).toArray, v', .int .i64 10] W fun e w' => Below W.heap.size W w' ∧ ∃ (rb : Nat) (ys : List Pt), e = .returned (.tuple #[.pointer (some ⟨rb, 0, none⟩), .int .i64 0]) ∧ ys.Perm (ptsAll K 10 F) ∧ SrtP ys ∧ Rng w' rb ys ∧ W.heap.size ≤ rb := fun v' W hk h => build_ok K hKl F hok 10 v' W h (fun x hx => by have := hFm x hx; omega) (he5.below hk.1)
            go_region_held3 (fun w' => w'.rangeAt q 0 (keyV K) ∧ Kps w5.heap.size w5 w')
              (first
                | exact hSS _ hK0
                | (go_split_ands; exact hSS _ (by assumption))
                | (go_split_ands; refine hSS _ (Kps.call ?_ hb6); assumption)
                | (go_split_ands; refine hSS _ (Kps.call ?_ hb7); assumption))
              (first
                | (go_at_call 11; refine (dO1 _ (by go_split_ands; assumption)).mono ?_; rintro e w6 ⟨A6, c6, rfl, hE6, hb6⟩; have hk6 := hK0.call hb6)
                | (go_at_call 10; refine (dB1 _ _ hk6 hE6).mono ?_; rintro e w7 ⟨hb7, rb1, ys, rfl, hp1, hs1, hR7, htb1⟩))
            have hk7 : Kps w5.heap.size w5 w7 := by go_split_ands; assumption
            clear dO1 dB1 hE6
            have hK7 : Kps w5.heap.size w5 w7.drew := ⟨hk7.1.drew, hk7.2⟩
            have hokL := less_ok hok kk
            have hLm : ∀ x ∈ lessN F kk, x.1.length ≤ 13 := fun x hx => hFm x (by
              unfold lessN at hx
              rcases List.mem_append.1 hx with h | h
              · exact List.mem_of_mem_take h
              · exact List.mem_of_mem_drop h)
            have dO2 : ∀ W, Kps w5.heap.size w5 W → Calls Tryd.prog 11 #[.slice A39 Ln c39] W fun e w' => ∃ (A5 : Option Addr) (n5 c5 : Nat), e = .returned (.slice A5 n5 c5) ∧ Ents w' (.slice A5 n5 c5) (lessN F kk) ∧ Below W.heap.size W w' := fun W h => (own_any (lessN F kk) (.slice A39 Ln c39) W (hL5.below h.1) (by rw [← hLn'.out]; omega)).mono (by
              rintro e w' ⟨u, rfl, ho, hb⟩
              have hE := row_ents ho
              obtain ⟨A5, c5, rfl⟩ := row_slice ho
              exact ⟨A5, _, c5, rfl, hE, hb⟩)
            have dB2 : ∀ (v' : Value) (W : World), Kps w5.heap.size w5 W → Ents W v' (lessN F kk) → Calls Tryd.prog 10 #[.agg (keyV K).toArray, v', .int .i64 10] W fun e w' => Below W.heap.size W w' ∧ ∃ (rb : Nat) (ys : List Pt), e = .returned (.tuple #[.pointer (some ⟨rb, 0, none⟩), .int .i64 0]) ∧ ys.Perm (ptsAll K 10 (lessN F kk)) ∧ SrtP ys ∧ Rng w' rb ys ∧ W.heap.size ≤ rb := fun v' W hk h => build_ok K hKl (lessN F kk) hokL 10 v' W h (fun x hx => by have := hLm x hx; omega) (he5.below hk.1)
            clear hb6 hb7 hk6 hK0
            go_wp2
            go_region_held3 (fun w' => w'.rangeAt q 0 (keyV K) ∧ Kps w5.heap.size w5 w')
              (first
                | exact hSS _ hK7
                | (go_split_ands; exact hSS _ (by assumption))
                | (go_split_ands; refine hSS _ (Kps.call ?_ hb8); assumption)
                | (go_split_ands; refine hSS _ (Kps.call ?_ hb9); assumption))
              (first
                | (go_at_call 11; refine (dO2 _ (by go_split_ands; assumption)).mono ?_; rintro e w8 ⟨A8, n8, c8, rfl, hE8, hb8⟩; have hk8 := hK7.call hb8)
                | (go_at_call 10; refine (dB2 _ _ hk8 hE8).mono ?_; rintro e w54 ⟨hb9, rb2, zs, rfl, hp2, hs2, hR54, htb2⟩))
            have hk54 : Kps w5.heap.size w5 w54 := by go_split_ands; assumption
            have hF54 := hF5.below hk54.1
            have hR1 := ((hR7.below (Below.refl _ w7).drew).below hb8).below hb9
            have ht54 := ht5.trans (hk54.1.mono ht5.size)
            have hyl : ys.length ≤ 262144 := by rw [hp1.length_eq]; exact pts_len K _ F hok
            have hzl : zs.length ≤ 262144 := by rw [hp2.length_eq]; exact pts_len K _ (lessN F kk) hokL
            have hnl : ∀ p ∈ ys, p.2.length ≤ 1000 := pts_names hp1 hFm
            obtain ⟨hWl, d0, d1, t, hWe, hpk⟩ := little K 10 F hok kk hkl (by omega) hgg.out ys zs hp1 hs1 hp2 hs2 m
            have dW := fun W h => walk_any ys hs1 m rb1 W h (by omega) hnl
            have dP := fun W h => pick_any zs hs2 m rb2 W h (by omega)
            generalize walkF (roundL ys (fromN ys m)) = WR at *
            have hF54c : ∀ W, Below w54.heap.size w54 W → W.cell? ⟨gb, kk * 2, none⟩ = some (.string (mk F[kk].1)) ∧ W.cell? ⟨gb, kk * 2 + 1, none⟩ = some (.int .i64 F[kk].2) := fun W hB => by
              obtain ⟨A', c', hAe, h1, h2⟩ := hF54.below hB
              cases hAe
              obtain ⟨b', o', hbo, h3, h4⟩ := h2 (by omega)
              cases hbo
              have := h4 kk F[kk] (List.getElem?_eq_getElem hkl)
              simpa using this
            have z10 : (kk : Int) < (F.length : Int) := by omega
            have z11 : (0 : Int) ≤ (kk : Int) := by omega
            clear dO2 dB2 hE8 hSS hK7 hky hk8 hb8 hb9 hp1 hp2 hR7 hnl hokL hLm he5 hL5 hF5 ht5
            go_wp2_with (go_at_call 19; (with_reducible refine (dW _ hR1).mono ?_); rintro e w55 ⟨u55, rfl, ho55, hb55⟩
                         obtain ⟨A55, c55, rfl⟩ := row_slice ho55
                         unfold OwnStrs at ho55
                         rw [hWl] at ho55 ⊢
                         have hfc1 := (hF54c _ hb55).1
                         have hfc2 := (hF54c _ hb55).2)
            rcases id ho55.2 with ⟨_, h0⟩ | ⟨g5, cap5, cur5, hv5, hg51, hg52, hc51, hc52, hc53, hc54⟩
            · omega
            cases hv5
            subst hWe
            have hg5l : g5 < w55.heap.size := (Array.getElem?_eq_some_iff.1 hg52).1
            have hcw0 : w55.cell? ⟨g5, 0, none⟩ = some (.string (mk d0)) := by
              have := ho55.cells (g := g5) rfl 0 (.string (mk d0)) rfl
              rwa [Addr.add_mid] at this
            have hcw1 : w55.cell? ⟨g5, 1, none⟩ = some (.string (mk d1)) := by
              have := ho55.cells (g := g5) rfl 1 (.string (mk d1)) rfl
              rwa [Addr.add_mid] at this
            have ht55 := bt ht54 hb55
            have hR55 := hR54.below hb55
            have y5 : (1 : Int) ≤ (F.length : Int) := by omega
            have y6 : (0 : Int) < (F.length : Int) := by omega
            have y7 : (F.length : Int) ≤ (c55 : Int) := by omega
            have y8 : ¬ c55 = 1 := by omega
            have y9 : 1 < F.length := by omega
            have y10 : 0 < F.length := by omega
            have y11 : (0 : Int) < ((F.length - 1 : Nat) : Int) := by omega
            have y12 : 0 < F.length - 1 := by omega
            generalize F[kk].1 = nk at *
            generalize F[kk].2 = nw at *
            clear hR1 dW ho55 hF54 hF54c hb55 ht54 hR54 hWl hyl hg52 hc53 hc54
            by_cases c7 : d0 = nk
            · have ht7 : ((mk d0).toList == (mk nk).toList) = true := by rw [mk_eq, decide_eq_true c7]
              rw [hpk, if_pos c7] at dP
              clear hpk
              have htest : ((mk d1).toList == (mk d1).toList) = true := by rw [mk_eq, decide_eq_true rfl]
              have hKd : ∀ n, Kps w55.heap.size w55 (w55.drewN n).drew := fun n => ⟨(below_drewN (Below.refl _ w55) n).drew, Nat.le_refl _⟩
              have hSS : ∀ w', Kps w55.heap.size w55 w' → (w'.cell? ⟨g5, 1, none⟩ = some (.string (mk d1)) ∧ Kps w55.heap.size w55 w') := fun w' h => ⟨h.cell hg5l hcw1, h⟩
              have dP' := fun W (h : Kps w55.heap.size w55 W) => dP W (hR55.below h.1)
              clear dP hR55
              go_wp2
              go_quiet (fail)
              go_wp2
              go_region_held3 (fun w' => w'.cell? ⟨g5, 1, none⟩ = some (.string (mk d1)) ∧ Kps w55.heap.size w55 w')
                (first
                  | exact hSS _ (hKd _)
                  | (go_split_ands; exact hSS _ (by assumption))
                  | (go_split_ands; refine hSS _ (Kps.call ?_ hb56); assumption))
                ((go_at_call 17; refine (dP' _ (by go_split_ands; assumption)).mono ?_; rintro e w56 ⟨rfl, hb56⟩))
              have hk56 : Kps w55.heap.size w55 w56 := by go_split_ands; assumption
              go_wp2
              go_ret
              exact ⟨by first | rfl | exact ret_bool htest | (show Ending.returned (Value.bool _) = _; rw [htest]), bt ht55 hk56.1⟩
            · have ht7 : ((mk d0).toList == (mk nk).toList) = false := by rw [mk_eq, decide_eq_false c7]
              rw [hpk, if_neg c7] at dP
              clear hpk
              have htest : ((mk d0).toList == (mk d0).toList) = true := by rw [mk_eq, decide_eq_true rfl]
              have hKd : ∀ n, Kps w55.heap.size w55 (w55.drewN n).drew := fun n => ⟨(below_drewN (Below.refl _ w55) n).drew, Nat.le_refl _⟩
              have hSS : ∀ w', Kps w55.heap.size w55 w' → (w'.cell? ⟨g5, 0, none⟩ = some (.string (mk d0)) ∧ Kps w55.heap.size w55 w') := fun w' h => ⟨h.cell hg5l hcw0, h⟩
              have dP' := fun W (h : Kps w55.heap.size w55 W) => dP W (hR55.below h.1)
              clear dP hR55
              go_wp2
              go_quiet (fail)
              go_wp2
              go_region_held3 (fun w' => w'.cell? ⟨g5, 0, none⟩ = some (.string (mk d0)) ∧ Kps w55.heap.size w55 w')
                (first
                  | exact hSS _ (hKd _)
                  | (go_split_ands; exact hSS _ (by assumption))
                  | (go_split_ands; refine hSS _ (Kps.call ?_ hb56); assumption))
                ((go_at_call 17; refine (dP' _ (by go_split_ands; assumption)).mono ?_; rintro e w56 ⟨rfl, hb56⟩))
              have hk56 : Kps w55.heap.size w55 w56 := by go_split_ands; assumption
              go_wp2
              go_ret
              exact ⟨by first | rfl | exact ret_bool htest | (show Ending.returned (Value.bool _) = _; rw [htest]), bt ht55 hk56.1⟩
end Go.Proofs.YtiamkhhnnlgemaaDoor.Ri
