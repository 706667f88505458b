/- The law of builds (printed by genX.py). -/
import Derived.Test.YtelcaedgiiecdaaMaV
namespace Go.Proofs.Ytelcaedgiiecdaa.Ma
open Go.RowKit Go.Proofs.Ytelcaedgiiecdaa.Sip
set_option linter.unusedVariables false
set_option maxRecDepth 100000 in
set_option maxHeartbeats 4000000 in
theorem builds_law (key : List UInt8) (xs : List Ent) (v : Value) (m : Int) (w : World) (hv : Ents w v xs) (hN : xs.length ≤ 140737488355328) (hT : ∀ x ∈ xs, x.1.length ≤ 9223372036854775807) :
    Calls Try.prog 3 #[.string (mk key), v, .int .i64 m] w fun e w' => e = .returned (.bool true) ∧ Below w.heap.size w w' := by
  have dA := awake_any w
  have dF := fun W h => few_any 6 (by omega) xs v W h hN hT
  have hFl := few_len 6 xs
  have hFm : ∀ x ∈ few12 6 xs, x.1.length ≤ 13 := fun x h => few_mem h
  generalize few12 6 xs = F at *
  have hKl := keyL_len key
  have dK0 := fun W => keyOf_any key W
  generalize keyL key = K at *
  obtain ⟨k0, k1, k2, k3, k4, k5, k6, k7, k8, k9, k10, k11, k12, k13, k14, k15, rfl⟩ := list16 hKl
  have dK : ∀ W, Calls Try.prog 9 #[.string (mk key)] W fun e w' => e = .returned (.agg #[.int .u8 (k0.toNat : Int), .int .u8 (k1.toNat : Int), .int .u8 (k2.toNat : Int), .int .u8 (k3.toNat : Int), .int .u8 (k4.toNat : Int), .int .u8 (k5.toNat : Int), .int .u8 (k6.toNat : Int), .int .u8 (k7.toNat : Int), .int .u8 (k8.toNat : Int), .int .u8 (k9.toNat : Int), .int .u8 (k10.toNat : Int), .int .u8 (k11.toNat : Int), .int .u8 (k12.toNat : Int), .int .u8 (k13.toNat : Int), .int .u8 (k14.toNat : Int), .int .u8 (k15.toNat : Int)]) ∧ Below W.heap.size W w' := fun W => dK0 W
  clear dK0
  by_cases c1 : 1000 < m ∧ m ≤ 1048576
  · obtain ⟨c2, c3⟩ := c1
    go_enter Try.func3, Try.ntmps3
    go_wp2_with (first
      | (go_at_call 7; refine dA.mono ?_; rintro e w1 ⟨rfl, hb1⟩)
      | (go_at_call 8; refine (dF _ (hv.below hb1)).mono ?_; rintro e w2 ⟨u, rfl, hown, hb2⟩; obtain ⟨A, cp, rfl, _, _⟩ := row_ents hown)
      | (go_at_call 9; refine (dK _).mono ?_; rintro e w3 ⟨rfl, hb3⟩))
    generalize hMM : (1009 : Int) = mm at *
    have hbt := bt (bt hb1 hb2) hb3
    have hE0 := (row_ents hown).below hb3
    have hky := bytesRange (show BytesAt (w3.alloc (.cells #[.int .u8 (k0.toNat : Int), .int .u8 (k1.toNat : Int), .int .u8 (k2.toNat : Int), .int .u8 (k3.toNat : Int), .int .u8 (k4.toNat : Int), .int .u8 (k5.toNat : Int), .int .u8 (k6.toNat : Int), .int .u8 (k7.toNat : Int), .int .u8 (k8.toNat : Int), .int .u8 (k9.toNat : Int), .int .u8 (k10.toNat : Int), .int .u8 (k11.toNat : Int), .int .u8 (k12.toNat : Int), .int .u8 (k13.toNat : Int), .int .u8 (k14.toNat : Int), .int .u8 (k15.toNat : Int)] 26)) w3.heap.size [k0, k1, k2, k3, k4, k5, k6, k7, k8, k9, k10, k11, k12, k13, k14, k15] 26 from blkNew _ _)
    have hb4 := (Below.refl _ w3).alloc (Nat.le_refl _) (.cells #[.int .u8 (k0.toNat : Int), .int .u8 (k1.toNat : Int), .int .u8 (k2.toNat : Int), .int .u8 (k3.toNat : Int), .int .u8 (k4.toNat : Int), .int .u8 (k5.toNat : Int), .int .u8 (k6.toNat : Int), .int .u8 (k7.toNat : Int), .int .u8 (k8.toNat : Int), .int .u8 (k9.toNat : Int), .int .u8 (k10.toNat : Int), .int .u8 (k11.toNat : Int), .int .u8 (k12.toNat : Int), .int .u8 (k13.toNat : Int), .int .u8 (k14.toNat : Int), .int .u8 (k15.toNat : Int)] 26)
    have hE4 := hE0.below hb4
    have hbt4 := bt hbt hb4
    have hz4 : w3.heap.size < (w3.alloc (.cells #[.int .u8 (k0.toNat : Int), .int .u8 (k1.toNat : Int), .int .u8 (k2.toNat : Int), .int .u8 (k3.toNat : Int), .int .u8 (k4.toNat : Int), .int .u8 (k5.toNat : Int), .int .u8 (k6.toNat : Int), .int .u8 (k7.toNat : Int), .int .u8 (k8.toNat : Int), .int .u8 (k9.toNat : Int), .int .u8 (k10.toNat : Int), .int .u8 (k11.toNat : Int), .int .u8 (k12.toNat : Int), .int .u8 (k13.toNat : Int), .int .u8 (k14.toNat : Int), .int .u8 (k15.toNat : Int)] 26)).heap.size := by simp
    generalize w3.alloc (.cells #[.int .u8 (k0.toNat : Int), .int .u8 (k1.toNat : Int), .int .u8 (k2.toNat : Int), .int .u8 (k3.toNat : Int), .int .u8 (k4.toNat : Int), .int .u8 (k5.toNat : Int), .int .u8 (k6.toNat : Int), .int .u8 (k7.toNat : Int), .int .u8 (k8.toNat : Int), .int .u8 (k9.toNat : Int), .int .u8 (k10.toNat : Int), .int .u8 (k11.toNat : Int), .int .u8 (k12.toNat : Int), .int .u8 (k13.toNat : Int), .int .u8 (k14.toNat : Int), .int .u8 (k15.toNat : Int)] 26) = w4 at *
    generalize ([k0, k1, k2, k3, k4, k5, k6, k7, k8, k9, k10, k11, k12, k13, k14, k15] : List UInt8) = K at *
    generalize w3.heap.size = q at *
    have hcsz : (Try.prog.info? 26).map (·.size) = some (keyV K).length := by
      rw [show (keyV K).length = 16 by unfold keyV; rw [List.length_map, hKl]]; kernel_rfl
    have hcu := Try.underlying26
    have hSS : ∀ w', Kps w4.heap.size w4 w' → (w'.rangeAt q 0 (keyV K) ∧ Kps w4.heap.size w4 w') := fun w' hk => ⟨hk.range hz4 hky, hk⟩
    have hK0 : Kps w4.heap.size w4 w4.drew := ⟨(Below.refl _ w4).drew, Nat.le_refl _⟩
    have dO : ∀ W, Kps w4.heap.size w4 W → Calls Try.prog 11 #[.slice A F.length cp] W fun e w' => ∃ (A5 : Option Addr) (c5 : Nat), e = .returned (.slice A5 F.length c5) ∧ Ents w' (.slice A5 F.length c5) F ∧ Below W.heap.size W w' := fun W h => (own_any F (.slice A F.length cp) W (hE4.below h.1) (by omega)).mono (by
      rintro e w' ⟨u, rfl, ho, hb⟩
      have hE := row_ents ho
      obtain ⟨A5, c5, rfl⟩ := row_slice ho
      exact ⟨A5, c5, rfl, hE, hb⟩)
    clear hown hb1 hb2 hb3 hb4 dA dF dK hE0 hbt
    have dR := fun W h => refCheck_any F mm (.slice A F.length cp) W h (by omega)
    rcases Classical.em (OkM F mm) with hok | hok
    case inr =>
      have he : errM F mm = 1 := errM_1 hok
      rw [he] at dR
      have dB : ∀ (v' : Value) (W : World), Ents W v' F → Calls Try.prog 10 #[.agg (keyV K).toArray, v', .int .i64 mm] W fun e w' => Below W.heap.size W w' ∧ e = .returned (.tuple #[.pointer none, .int .i64 1]) := fun v' W h => build_no K hKl F mm hok v' W h (by omega) (fun x hx => by have := hFm x hx; omega)
      go_region_held3 (fun w' => w'.rangeAt q 0 (keyV K) ∧ Kps w4.heap.size w4 w')
        (first
          | exact hSS _ hK0
          | (go_split_ands; exact hSS _ (by assumption))
          | (go_split_ands; refine hSS _ (Kps.call ?_ hb5); assumption)
          | (go_split_ands; refine hSS _ (Kps.call ?_ hb6); assumption))
        (first
          | (go_at_call 11; refine (dO _ (by go_split_ands; assumption)).mono ?_; rintro e w5 ⟨A5, c5, rfl, hE5, hb5⟩)
          | (go_at_call 10; refine (dB _ _ hE5).mono ?_; rintro e w6 ⟨hb6, rfl⟩))
      have hk6 : Kps w4.heap.size w4 w6 := by go_split_ands; assumption
      have ht6 := hbt4.trans (hk6.1.mono hbt4.size)
      go_wp2_with (go_at_call 12; refine (dR _ (hE4.below hk6.1)).mono ?_; rintro e w7 ⟨rfl, hb7⟩)
      go_ret
      exact ⟨rfl, bt ht6 hb7⟩
    obtain ⟨M, rfl⟩ := Int.eq_ofNat_of_zero_le (show 0 ≤ mm by have := hok.1.1; omega)
    have he : errM F (M : Int) = 0 := errM_0 hok
    rw [he] at dR
    have hM2 := hok.1.1
    have hM3 := hok.1.2.1
    have dB : ∀ (v' : Value) (W : World), Ents W v' F → Calls Try.prog 10 #[.agg (keyV K).toArray, v', .int .i64 (M : Int)] W fun e w' => Below W.heap.size W w' ∧ ∃ (ys : List Ent) (tb : Nat), ys.Perm F ∧ Srt ys ∧ e = .returned (.tuple #[.pointer (some ⟨tb, 0, none⟩), .int .i64 0]) ∧ W.heap.size ≤ tb ∧ Tab w' tb (ys.map Prod.fst) (plc K ys M) ∧ OkM ys (M : Int) := fun v' W h => build_ok K hKl F M hok v' W h (fun x hx => by have := hFm x hx; omega)
    go_region_held3 (fun w' => w'.rangeAt q 0 (keyV K) ∧ Kps w4.heap.size w4 w')
      (first
        | exact hSS _ hK0
        | (go_split_ands; exact hSS _ (by assumption))
        | (go_split_ands; refine hSS _ (Kps.call ?_ hb5); assumption)
        | (go_split_ands; refine hSS _ (Kps.call ?_ hb6); assumption))
      (first
        | (go_at_call 11; refine (dO _ (by go_split_ands; assumption)).mono ?_; rintro e w5 ⟨A5, c5, rfl, hE5, hb5⟩)
        | (go_at_call 10; refine (dB _ _ hE5).mono ?_; rintro e w6 ⟨hb6, ys, tb, hp, hs, rfl, htb, hT6, hok6⟩))
    have hk6 : Kps w4.heap.size w4 w6 := by go_split_ands; assumption
    have ht6 := hbt4.trans (hk6.1.mono hbt4.size)
    have hcv : ∀ W, Kps w4.heap.size w4 W → (convert 38 9 (.slice (some ⟨q, 0, none⟩) 16 16)).run Try.prog W = .ok (.string (mk K)) W := fun W h => by
      have hr := (hSS W h).1
      have h1 := run_convert_bytes_back (P := Try.prog) W 38 9 5 ⟨q, 0, none⟩ 16 K Try.underlying38 Try.underlying5 Try.underlying9 (fun j hj => by
        rw [Addr.add_mid, hr j (.int .u8 (K[j].toNat : Int)) (by unfold keyV; rw [List.getElem?_map, List.getElem?_eq_getElem hj]; rfl)])
      rw [hKl] at h1
      exact h1
    have hvals := plc_vals (K := K) hok6
    have hPl := plc_len (K := K) hok6
    have hys : insAll F = ys := srt_unique (xs := F) hok.2.2.2.2 (insAll_perm F) hp (insAll_srt F) hs
    have dRB := fun W h => refBuild_any K hKl F M hok (.slice A F.length cp) W h (fun x hx => by have := hFm x hx; omega)
    rw [hys] at dRB
    have hnl : (ys.map Prod.fst).length ≤ 6 := by rw [List.length_map, hp.length_eq]; exact hFl
    clear hys hp hs hok6
    generalize plc K ys M = P at *
    generalize ys.map Prod.fst = names at *
    go_wp2_with (first
      | (go_at_call 12; refine (dR _ (hE4.below hk6.1)).mono ?_; rintro e w7 ⟨rfl, hb7⟩; have hk7 := hk6.call hb7; have hT7 := hT6.below hb7; have hconv := hcv w7 hk7)
      | (go_at_call 13; refine (size_any names P tb _ hT7).mono ?_; rintro e w8 ⟨rfl, rfl⟩; rw [hPl]))
    have ht8 := ht6.trans (hb7.mono ht6.size)
    go_wp2_with (go_at_call 14; refine (dRB _ (hE4.below hk7.1)).mono ?_; rintro e w9 ⟨u9, rfl, ho9, hb9⟩; obtain ⟨A9, c9, rfl⟩ := row_slice ho9)
    have hS9 := row_strs ho9
    obtain ⟨A9', c9', hAe, hc9, hr9⟩ := hS9
    rw [List.length_map] at hAe hr9 hc9
    cases hAe
    have hT9 := hT7.below hb9
    have ht9 := ht8.trans (hb9.mono ht8.size)
    have hb90 : Below w9.heap.size w9 w9 := Below.refl _ _
    clear hconv hk7 hk6 hT7 hT6 ho9 hb9 hb7 hb6 hb5 ht6 ht8 dRB dR dB dO hSS hcv hE5 hE4 hbt4 hky
    go_loopw [66] (fun iv wr => ∃ k : Nat, k ≤ M ∧ iv = .int .i64 k ∧ Below w9.heap.size w9 wr) (fun iv _ => M - (intOf iv).toNat)
    case atStart => exact ⟨0, Nat.zero_le _, rfl, hb90⟩
    case round =>
      obtain ⟨k, hk, rfl, hb⟩ := hrel
      by_cases d1 : k < M
      · obtain ⟨p, hp⟩ : ∃ p, P[k]? = some p := ⟨_, List.getElem?_eq_getElem (by omega)⟩
        obtain ⟨b9, o9, rfl, hb9l, hx9⟩ := hr9 (by omega)
        have hcell := (hb.cell (p := ⟨b9, o9 + k, none⟩) hb9l).trans (hx9 k (nameAt names p) (by rw [List.getElem?_map, hp]; rfl))
        have hat : atS names P (k : Int) = nameAt names p := by unfold atS; rw [if_neg (by omega), Int.toNat_natCast, hp]
        have dT := at_any names P hvals tb (k : Int) wr (hT9.below hb) (by omega) (by omega)
        rw [hat] at dT
        have htest : (!(mk (nameAt names p)).toList == (mk (nameAt names p)).toList) = false := by rw [mk_eq, decide_eq_true rfl]; rfl
        generalize nameAt names p = nm0 at *
        have z1 : (0 : Int) ≤ (k : Int) := by omega
        have z2 : (k : Int) < (M : Int) := by omega
        clear hat hp hx9
        go_wp2_with (go_at_call 15; with_reducible refine dT.mono ?_; rintro e w10 ⟨rfl, hb10⟩)
        have hb10' := bt hb hb10
        go_roundw
        case rel => exact ⟨k + 1, by omega, by go_num, hb10'⟩
        case measure => simp [intOf]; omega
      · have dT1 := at_any names P hvals tb (-1) wr (hT9.below hb) (by omega) (by omega)
        have dT2 := fun W h => at_any names P hvals tb (M : Int) W h (by omega) (by omega)
        rw [show atS names P (-1) = [] by unfold atS; rw [if_pos (by omega)]] at dT1
        rw [show atS names P (M : Int) = [] from at_none M (by omega)] at dT2
        have d3 : ¬ (k : Int) < (M : Int) := by omega
        have hem : Hid (mk [] = ⟨#[]⟩) := Lib.hid rfl
        rw [hem.out] at dT1 dT2
        go_wp2_with (go_at_call 15; with_reducible refine dT1.mono ?_; rintro e w10 ⟨rfl, hb10⟩)
        have hb10' := bt hb hb10
        go_wp2_with (go_at_call 15; with_reducible refine (dT2 _ (hT9.below hb10')).mono ?_; rintro e w11 ⟨rfl, hb11⟩)
        go_ret
        exact ⟨rfl, bt ht9 (bt hb10' hb11)⟩
  · by_cases c2 : 1000 < m
    · have c3 : ¬ m ≤ 1048576 := fun h => c1 ⟨c2, h⟩
      clear c1
      go_enter Try.func3, Try.ntmps3
      go_wp2_with (first
        | (go_at_call 7; refine dA.mono ?_; rintro e w1 ⟨rfl, hb1⟩)
        | (go_at_call 8; refine (dF _ (hv.below hb1)).mono ?_; rintro e w2 ⟨u, rfl, hown, hb2⟩; obtain ⟨A, cp, rfl, _, _⟩ := row_ents hown)
        | (go_at_call 9; refine (dK _).mono ?_; rintro e w3 ⟨rfl, hb3⟩))
      have hbt := bt (bt hb1 hb2) hb3
      have hE0 := (row_ents hown).below hb3
      have hky := bytesRange (show BytesAt (w3.alloc (.cells #[.int .u8 (k0.toNat : Int), .int .u8 (k1.toNat : Int), .int .u8 (k2.toNat : Int), .int .u8 (k3.toNat : Int), .int .u8 (k4.toNat : Int), .int .u8 (k5.toNat : Int), .int .u8 (k6.toNat : Int), .int .u8 (k7.toNat : Int), .int .u8 (k8.toNat : Int), .int .u8 (k9.toNat : Int), .int .u8 (k10.toNat : Int), .int .u8 (k11.toNat : Int), .int .u8 (k12.toNat : Int), .int .u8 (k13.toNat : Int), .int .u8 (k14.toNat : Int), .int .u8 (k15.toNat : Int)] 26)) w3.heap.size [k0, k1, k2, k3, k4, k5, k6, k7, k8, k9, k10, k11, k12, k13, k14, k15] 26 from blkNew _ _)
      have hb4 := (Below.refl _ w3).alloc (Nat.le_refl _) (.cells #[.int .u8 (k0.toNat : Int), .int .u8 (k1.toNat : Int), .int .u8 (k2.toNat : Int), .int .u8 (k3.toNat : Int), .int .u8 (k4.toNat : Int), .int .u8 (k5.toNat : Int), .int .u8 (k6.toNat : Int), .int .u8 (k7.toNat : Int), .int .u8 (k8.toNat : Int), .int .u8 (k9.toNat : Int), .int .u8 (k10.toNat : Int), .int .u8 (k11.toNat : Int), .int .u8 (k12.toNat : Int), .int .u8 (k13.toNat : Int), .int .u8 (k14.toNat : Int), .int .u8 (k15.toNat : Int)] 26)
      have hE4 := hE0.below hb4
      have hbt4 := bt hbt hb4
      have hz4 : w3.heap.size < (w3.alloc (.cells #[.int .u8 (k0.toNat : Int), .int .u8 (k1.toNat : Int), .int .u8 (k2.toNat : Int), .int .u8 (k3.toNat : Int), .int .u8 (k4.toNat : Int), .int .u8 (k5.toNat : Int), .int .u8 (k6.toNat : Int), .int .u8 (k7.toNat : Int), .int .u8 (k8.toNat : Int), .int .u8 (k9.toNat : Int), .int .u8 (k10.toNat : Int), .int .u8 (k11.toNat : Int), .int .u8 (k12.toNat : Int), .int .u8 (k13.toNat : Int), .int .u8 (k14.toNat : Int), .int .u8 (k15.toNat : Int)] 26)).heap.size := by simp
      generalize w3.alloc (.cells #[.int .u8 (k0.toNat : Int), .int .u8 (k1.toNat : Int), .int .u8 (k2.toNat : Int), .int .u8 (k3.toNat : Int), .int .u8 (k4.toNat : Int), .int .u8 (k5.toNat : Int), .int .u8 (k6.toNat : Int), .int .u8 (k7.toNat : Int), .int .u8 (k8.toNat : Int), .int .u8 (k9.toNat : Int), .int .u8 (k10.toNat : Int), .int .u8 (k11.toNat : Int), .int .u8 (k12.toNat : Int), .int .u8 (k13.toNat : Int), .int .u8 (k14.toNat : Int), .int .u8 (k15.toNat : Int)] 26) = w4 at *
      generalize ([k0, k1, k2, k3, k4, k5, k6, k7, k8, k9, k10, k11, k12, k13, k14, k15] : List UInt8) = K at *
      generalize w3.heap.size = q at *
      have hcsz : (Try.prog.info? 26).map (·.size) = some (keyV K).length := by
        rw [show (keyV K).length = 16 by unfold keyV; rw [List.length_map, hKl]]; kernel_rfl
      have hcu := Try.underlying26
      have hSS : ∀ w', Kps w4.heap.size w4 w' → (w'.rangeAt q 0 (keyV K) ∧ Kps w4.heap.size w4 w') := fun w' hk => ⟨hk.range hz4 hky, hk⟩
      have hK0 : Kps w4.heap.size w4 w4.drew := ⟨(Below.refl _ w4).drew, Nat.le_refl _⟩
      have dO : ∀ W, Kps w4.heap.size w4 W → Calls Try.prog 11 #[.slice A F.length cp] W fun e w' => ∃ (A5 : Option Addr) (c5 : Nat), e = .returned (.slice A5 F.length c5) ∧ Ents w' (.slice A5 F.length c5) F ∧ Below W.heap.size W w' := fun W h => (own_any F (.slice A F.length cp) W (hE4.below h.1) (by omega)).mono (by
        rintro e w' ⟨u, rfl, ho, hb⟩
        have hE := row_ents ho
        obtain ⟨A5, c5, rfl⟩ := row_slice ho
        exact ⟨A5, c5, rfl, hE, hb⟩)
      clear hown hb1 hb2 hb3 hb4 dA dF dK hE0 hbt
      have dR := fun W h => refCheck_any F m (.slice A F.length cp) W h (by omega)
      rcases Classical.em (OkM F m) with hok | hok
      case inr =>
        have he : errM F m = 1 := errM_1 hok
        rw [he] at dR
        have dB : ∀ (v' : Value) (W : World), Ents W v' F → Calls Try.prog 10 #[.agg (keyV K).toArray, v', .int .i64 m] W fun e w' => Below W.heap.size W w' ∧ e = .returned (.tuple #[.pointer none, .int .i64 1]) := fun v' W h => build_no K hKl F m hok v' W h (by omega) (fun x hx => by have := hFm x hx; omega)
        go_region_held3 (fun w' => w'.rangeAt q 0 (keyV K) ∧ Kps w4.heap.size w4 w')
          (first
            | exact hSS _ hK0
            | (go_split_ands; exact hSS _ (by assumption))
            | (go_split_ands; refine hSS _ (Kps.call ?_ hb5); assumption)
            | (go_split_ands; refine hSS _ (Kps.call ?_ hb6); assumption))
          (first
            | (go_at_call 11; refine (dO _ (by go_split_ands; assumption)).mono ?_; rintro e w5 ⟨A5, c5, rfl, hE5, hb5⟩)
            | (go_at_call 10; refine (dB _ _ hE5).mono ?_; rintro e w6 ⟨hb6, rfl⟩))
        have hk6 : Kps w4.heap.size w4 w6 := by go_split_ands; assumption
        have ht6 := hbt4.trans (hk6.1.mono hbt4.size)
        go_wp2_with (go_at_call 12; refine (dR _ (hE4.below hk6.1)).mono ?_; rintro e w7 ⟨rfl, hb7⟩)
        go_ret
        exact ⟨rfl, bt ht6 hb7⟩
      obtain ⟨M, rfl⟩ := Int.eq_ofNat_of_zero_le (show 0 ≤ m by have := hok.1.1; omega)
      have he : errM F (M : Int) = 0 := errM_0 hok
      rw [he] at dR
      have hM2 := hok.1.1
      have hM3 := hok.1.2.1
      have dB : ∀ (v' : Value) (W : World), Ents W v' F → Calls Try.prog 10 #[.agg (keyV K).toArray, v', .int .i64 (M : Int)] W fun e w' => Below W.heap.size W w' ∧ ∃ (ys : List Ent) (tb : Nat), ys.Perm F ∧ Srt ys ∧ e = .returned (.tuple #[.pointer (some ⟨tb, 0, none⟩), .int .i64 0]) ∧ W.heap.size ≤ tb ∧ Tab w' tb (ys.map Prod.fst) (plc K ys M) ∧ OkM ys (M : Int) := fun v' W h => build_ok K hKl F M hok v' W h (fun x hx => by have := hFm x hx; omega)
      go_region_held3 (fun w' => w'.rangeAt q 0 (keyV K) ∧ Kps w4.heap.size w4 w')
        (first
          | exact hSS _ hK0
          | (go_split_ands; exact hSS _ (by assumption))
          | (go_split_ands; refine hSS _ (Kps.call ?_ hb5); assumption)
          | (go_split_ands; refine hSS _ (Kps.call ?_ hb6); assumption))
        (first
          | (go_at_call 11; refine (dO _ (by go_split_ands; assumption)).mono ?_; rintro e w5 ⟨A5, c5, rfl, hE5, hb5⟩)
          | (go_at_call 10; refine (dB _ _ hE5).mono ?_; rintro e w6 ⟨hb6, ys, tb, hp, hs, rfl, htb, hT6, hok6⟩))
      have hk6 : Kps w4.heap.size w4 w6 := by go_split_ands; assumption
      have ht6 := hbt4.trans (hk6.1.mono hbt4.size)
      have hcv : ∀ W, Kps w4.heap.size w4 W → (convert 38 9 (.slice (some ⟨q, 0, none⟩) 16 16)).run Try.prog W = .ok (.string (mk K)) W := fun W h => by
        have hr := (hSS W h).1
        have h1 := run_convert_bytes_back (P := Try.prog) W 38 9 5 ⟨q, 0, none⟩ 16 K Try.underlying38 Try.underlying5 Try.underlying9 (fun j hj => by
          rw [Addr.add_mid, hr j (.int .u8 (K[j].toNat : Int)) (by unfold keyV; rw [List.getElem?_map, List.getElem?_eq_getElem hj]; rfl)])
        rw [hKl] at h1
        exact h1
      have hvals := plc_vals (K := K) hok6
      have hPl := plc_len (K := K) hok6
      have hys : insAll F = ys := srt_unique (xs := F) hok.2.2.2.2 (insAll_perm F) hp (insAll_srt F) hs
      have dRB := fun W h => refBuild_any K hKl F M hok (.slice A F.length cp) W h (fun x hx => by have := hFm x hx; omega)
      rw [hys] at dRB
      have hnl : (ys.map Prod.fst).length ≤ 6 := by rw [List.length_map, hp.length_eq]; exact hFl
      clear hys hp hs hok6
      generalize plc K ys M = P at *
      generalize ys.map Prod.fst = names at *
      go_wp2_with (first
        | (go_at_call 12; refine (dR _ (hE4.below hk6.1)).mono ?_; rintro e w7 ⟨rfl, hb7⟩; have hk7 := hk6.call hb7; have hT7 := hT6.below hb7; have hconv := hcv w7 hk7)
        | (go_at_call 13; refine (size_any names P tb _ hT7).mono ?_; rintro e w8 ⟨rfl, rfl⟩; rw [hPl]))
      have ht8 := ht6.trans (hb7.mono ht6.size)
      go_wp2_with (go_at_call 14; refine (dRB _ (hE4.below hk7.1)).mono ?_; rintro e w9 ⟨u9, rfl, ho9, hb9⟩; obtain ⟨A9, c9, rfl⟩ := row_slice ho9)
      have hS9 := row_strs ho9
      obtain ⟨A9', c9', hAe, hc9, hr9⟩ := hS9
      rw [List.length_map] at hAe hr9 hc9
      cases hAe
      have hT9 := hT7.below hb9
      have ht9 := ht8.trans (hb9.mono ht8.size)
      have hb90 : Below w9.heap.size w9 w9 := Below.refl _ _
      clear hconv hk7 hk6 hT7 hT6 ho9 hb9 hb7 hb6 hb5 ht6 ht8 dRB dR dB dO hSS hcv hE5 hE4 hbt4 hky
      go_loopw [66] (fun iv wr => ∃ k : Nat, k ≤ M ∧ iv = .int .i64 k ∧ Below w9.heap.size w9 wr) (fun iv _ => M - (intOf iv).toNat)
      case atStart => exact ⟨0, Nat.zero_le _, rfl, hb90⟩
      case round =>
        obtain ⟨k, hk, rfl, hb⟩ := hrel
        by_cases d1 : k < M
        · obtain ⟨p, hp⟩ : ∃ p, P[k]? = some p := ⟨_, List.getElem?_eq_getElem (by omega)⟩
          obtain ⟨b9, o9, rfl, hb9l, hx9⟩ := hr9 (by omega)
          have hcell := (hb.cell (p := ⟨b9, o9 + k, none⟩) hb9l).trans (hx9 k (nameAt names p) (by rw [List.getElem?_map, hp]; rfl))
          have hat : atS names P (k : Int) = nameAt names p := by unfold atS; rw [if_neg (by omega), Int.toNat_natCast, hp]
          have dT := at_any names P hvals tb (k : Int) wr (hT9.below hb) (by omega) (by omega)
          rw [hat] at dT
          have htest : (!(mk (nameAt names p)).toList == (mk (nameAt names p)).toList) = false := by rw [mk_eq, decide_eq_true rfl]; rfl
          generalize nameAt names p = nm0 at *
          have z1 : (0 : Int) ≤ (k : Int) := by omega
          have z2 : (k : Int) < (M : Int) := by omega
          clear hat hp hx9
          go_wp2_with (go_at_call 15; with_reducible refine dT.mono ?_; rintro e w10 ⟨rfl, hb10⟩)
          have hb10' := bt hb hb10
          go_roundw
          case rel => exact ⟨k + 1, by omega, by go_num, hb10'⟩
          case measure => simp [intOf]; omega
        · have dT1 := at_any names P hvals tb (-1) wr (hT9.below hb) (by omega) (by omega)
          have dT2 := fun W h => at_any names P hvals tb (M : Int) W h (by omega) (by omega)
          rw [show atS names P (-1) = [] by unfold atS; rw [if_pos (by omega)]] at dT1
          rw [show atS names P (M : Int) = [] from at_none M (by omega)] at dT2
          have d3 : ¬ (k : Int) < (M : Int) := by omega
          have hem : Hid (mk [] = ⟨#[]⟩) := Lib.hid rfl
          rw [hem.out] at dT1 dT2
          go_wp2_with (go_at_call 15; with_reducible refine dT1.mono ?_; rintro e w10 ⟨rfl, hb10⟩)
          have hb10' := bt hb hb10
          go_wp2_with (go_at_call 15; with_reducible refine (dT2 _ (hT9.below hb10')).mono ?_; rintro e w11 ⟨rfl, hb11⟩)
          go_ret
          exact ⟨rfl, bt ht9 (bt hb10' hb11)⟩
    · clear c1
      go_enter Try.func3, Try.ntmps3
      go_wp2_with (first
        | (go_at_call 7; refine dA.mono ?_; rintro e w1 ⟨rfl, hb1⟩)
        | (go_at_call 8; refine (dF _ (hv.below hb1)).mono ?_; rintro e w2 ⟨u, rfl, hown, hb2⟩; obtain ⟨A, cp, rfl, _, _⟩ := row_ents hown)
        | (go_at_call 9; refine (dK _).mono ?_; rintro e w3 ⟨rfl, hb3⟩))
      have hbt := bt (bt hb1 hb2) hb3
      have hE0 := (row_ents hown).below hb3
      have hky := bytesRange (show BytesAt (w3.alloc (.cells #[.int .u8 (k0.toNat : Int), .int .u8 (k1.toNat : Int), .int .u8 (k2.toNat : Int), .int .u8 (k3.toNat : Int), .int .u8 (k4.toNat : Int), .int .u8 (k5.toNat : Int), .int .u8 (k6.toNat : Int), .int .u8 (k7.toNat : Int), .int .u8 (k8.toNat : Int), .int .u8 (k9.toNat : Int), .int .u8 (k10.toNat : Int), .int .u8 (k11.toNat : Int), .int .u8 (k12.toNat : Int), .int .u8 (k13.toNat : Int), .int .u8 (k14.toNat : Int), .int .u8 (k15.toNat : Int)] 26)) w3.heap.size [k0, k1, k2, k3, k4, k5, k6, k7, k8, k9, k10, k11, k12, k13, k14, k15] 26 from blkNew _ _)
      have hb4 := (Below.refl _ w3).alloc (Nat.le_refl _) (.cells #[.int .u8 (k0.toNat : Int), .int .u8 (k1.toNat : Int), .int .u8 (k2.toNat : Int), .int .u8 (k3.toNat : Int), .int .u8 (k4.toNat : Int), .int .u8 (k5.toNat : Int), .int .u8 (k6.toNat : Int), .int .u8 (k7.toNat : Int), .int .u8 (k8.toNat : Int), .int .u8 (k9.toNat : Int), .int .u8 (k10.toNat : Int), .int .u8 (k11.toNat : Int), .int .u8 (k12.toNat : Int), .int .u8 (k13.toNat : Int), .int .u8 (k14.toNat : Int), .int .u8 (k15.toNat : Int)] 26)
      have hE4 := hE0.below hb4
      have hbt4 := bt hbt hb4
      have hz4 : w3.heap.size < (w3.alloc (.cells #[.int .u8 (k0.toNat : Int), .int .u8 (k1.toNat : Int), .int .u8 (k2.toNat : Int), .int .u8 (k3.toNat : Int), .int .u8 (k4.toNat : Int), .int .u8 (k5.toNat : Int), .int .u8 (k6.toNat : Int), .int .u8 (k7.toNat : Int), .int .u8 (k8.toNat : Int), .int .u8 (k9.toNat : Int), .int .u8 (k10.toNat : Int), .int .u8 (k11.toNat : Int), .int .u8 (k12.toNat : Int), .int .u8 (k13.toNat : Int), .int .u8 (k14.toNat : Int), .int .u8 (k15.toNat : Int)] 26)).heap.size := by simp
      generalize w3.alloc (.cells #[.int .u8 (k0.toNat : Int), .int .u8 (k1.toNat : Int), .int .u8 (k2.toNat : Int), .int .u8 (k3.toNat : Int), .int .u8 (k4.toNat : Int), .int .u8 (k5.toNat : Int), .int .u8 (k6.toNat : Int), .int .u8 (k7.toNat : Int), .int .u8 (k8.toNat : Int), .int .u8 (k9.toNat : Int), .int .u8 (k10.toNat : Int), .int .u8 (k11.toNat : Int), .int .u8 (k12.toNat : Int), .int .u8 (k13.toNat : Int), .int .u8 (k14.toNat : Int), .int .u8 (k15.toNat : Int)] 26) = w4 at *
      generalize ([k0, k1, k2, k3, k4, k5, k6, k7, k8, k9, k10, k11, k12, k13, k14, k15] : List UInt8) = K at *
      generalize w3.heap.size = q at *
      have hcsz : (Try.prog.info? 26).map (·.size) = some (keyV K).length := by
        rw [show (keyV K).length = 16 by unfold keyV; rw [List.length_map, hKl]]; kernel_rfl
      have hcu := Try.underlying26
      have hSS : ∀ w', Kps w4.heap.size w4 w' → (w'.rangeAt q 0 (keyV K) ∧ Kps w4.heap.size w4 w') := fun w' hk => ⟨hk.range hz4 hky, hk⟩
      have hK0 : Kps w4.heap.size w4 w4.drew := ⟨(Below.refl _ w4).drew, Nat.le_refl _⟩
      have dO : ∀ W, Kps w4.heap.size w4 W → Calls Try.prog 11 #[.slice A F.length cp] W fun e w' => ∃ (A5 : Option Addr) (c5 : Nat), e = .returned (.slice A5 F.length c5) ∧ Ents w' (.slice A5 F.length c5) F ∧ Below W.heap.size W w' := fun W h => (own_any F (.slice A F.length cp) W (hE4.below h.1) (by omega)).mono (by
        rintro e w' ⟨u, rfl, ho, hb⟩
        have hE := row_ents ho
        obtain ⟨A5, c5, rfl⟩ := row_slice ho
        exact ⟨A5, c5, rfl, hE, hb⟩)
      clear hown hb1 hb2 hb3 hb4 dA dF dK hE0 hbt
      have dR := fun W h => refCheck_any F m (.slice A F.length cp) W h (by omega)
      rcases Classical.em (OkM F m) with hok | hok
      case inr =>
        have he : errM F m = 1 := errM_1 hok
        rw [he] at dR
        have dB : ∀ (v' : Value) (W : World), Ents W v' F → Calls Try.prog 10 #[.agg (keyV K).toArray, v', .int .i64 m] W fun e w' => Below W.heap.size W w' ∧ e = .returned (.tuple #[.pointer none, .int .i64 1]) := fun v' W h => build_no K hKl F m hok v' W h (by omega) (fun x hx => by have := hFm x hx; omega)
        go_region_held3 (fun w' => w'.rangeAt q 0 (keyV K) ∧ Kps w4.heap.size w4 w')
          (first
            | exact hSS _ hK0
            | (go_split_ands; exact hSS _ (by assumption))
            | (go_split_ands; refine hSS _ (Kps.call ?_ hb5); assumption)
            | (go_split_ands; refine hSS _ (Kps.call ?_ hb6); assumption))
          (first
            | (go_at_call 11; refine (dO _ (by go_split_ands; assumption)).mono ?_; rintro e w5 ⟨A5, c5, rfl, hE5, hb5⟩)
            | (go_at_call 10; refine (dB _ _ hE5).mono ?_; rintro e w6 ⟨hb6, rfl⟩))
        have hk6 : Kps w4.heap.size w4 w6 := by go_split_ands; assumption
        have ht6 := hbt4.trans (hk6.1.mono hbt4.size)
        go_wp2_with (go_at_call 12; refine (dR _ (hE4.below hk6.1)).mono ?_; rintro e w7 ⟨rfl, hb7⟩)
        go_ret
        exact ⟨rfl, bt ht6 hb7⟩
      obtain ⟨M, rfl⟩ := Int.eq_ofNat_of_zero_le (show 0 ≤ m by have := hok.1.1; omega)
      have he : errM F (M : Int) = 0 := errM_0 hok
      rw [he] at dR
      have hM2 := hok.1.1
      have hM3 := hok.1.2.1
      have dB : ∀ (v' : Value) (W : World), Ents W v' F → Calls Try.prog 10 #[.agg (keyV K).toArray, v', .int .i64 (M : Int)] W fun e w' => Below W.heap.size W w' ∧ ∃ (ys : List Ent) (tb : Nat), ys.Perm F ∧ Srt ys ∧ e = .returned (.tuple #[.pointer (some ⟨tb, 0, none⟩), .int .i64 0]) ∧ W.heap.size ≤ tb ∧ Tab w' tb (ys.map Prod.fst) (plc K ys M) ∧ OkM ys (M : Int) := fun v' W h => build_ok K hKl F M hok v' W h (fun x hx => by have := hFm x hx; omega)
      go_region_held3 (fun w' => w'.rangeAt q 0 (keyV K) ∧ Kps w4.heap.size w4 w')
        (first
          | exact hSS _ hK0
          | (go_split_ands; exact hSS _ (by assumption))
          | (go_split_ands; refine hSS _ (Kps.call ?_ hb5); assumption)
          | (go_split_ands; refine hSS _ (Kps.call ?_ hb6); assumption))
        (first
          | (go_at_call 11; refine (dO _ (by go_split_ands; assumption)).mono ?_; rintro e w5 ⟨A5, c5, rfl, hE5, hb5⟩)
          | (go_at_call 10; refine (dB _ _ hE5).mono ?_; rintro e w6 ⟨hb6, ys, tb, hp, hs, rfl, htb, hT6, hok6⟩))
      have hk6 : Kps w4.heap.size w4 w6 := by go_split_ands; assumption
      have ht6 := hbt4.trans (hk6.1.mono hbt4.size)
      have hcv : ∀ W, Kps w4.heap.size w4 W → (convert 38 9 (.slice (some ⟨q, 0, none⟩) 16 16)).run Try.prog W = .ok (.string (mk K)) W := fun W h => by
        have hr := (hSS W h).1
        have h1 := run_convert_bytes_back (P := Try.prog) W 38 9 5 ⟨q, 0, none⟩ 16 K Try.underlying38 Try.underlying5 Try.underlying9 (fun j hj => by
          rw [Addr.add_mid, hr j (.int .u8 (K[j].toNat : Int)) (by unfold keyV; rw [List.getElem?_map, List.getElem?_eq_getElem hj]; rfl)])
        rw [hKl] at h1
        exact h1
      have hvals := plc_vals (K := K) hok6
      have hPl := plc_len (K := K) hok6
      have hys : insAll F = ys := srt_unique (xs := F) hok.2.2.2.2 (insAll_perm F) hp (insAll_srt F) hs
      have dRB := fun W h => refBuild_any K hKl F M hok (.slice A F.length cp) W h (fun x hx => by have := hFm x hx; omega)
      rw [hys] at dRB
      have hnl : (ys.map Prod.fst).length ≤ 6 := by rw [List.length_map, hp.length_eq]; exact hFl
      clear hys hp hs hok6
      generalize plc K ys M = P at *
      generalize ys.map Prod.fst = names at *
      go_wp2_with (first
        | (go_at_call 12; refine (dR _ (hE4.below hk6.1)).mono ?_; rintro e w7 ⟨rfl, hb7⟩; have hk7 := hk6.call hb7; have hT7 := hT6.below hb7; have hconv := hcv w7 hk7)
        | (go_at_call 13; refine (size_any names P tb _ hT7).mono ?_; rintro e w8 ⟨rfl, rfl⟩; rw [hPl]))
      have ht8 := ht6.trans (hb7.mono ht6.size)
      go_wp2_with (go_at_call 14; refine (dRB _ (hE4.below hk7.1)).mono ?_; rintro e w9 ⟨u9, rfl, ho9, hb9⟩; obtain ⟨A9, c9, rfl⟩ := row_slice ho9)
      have hS9 := row_strs ho9
      obtain ⟨A9', c9', hAe, hc9, hr9⟩ := hS9
      rw [List.length_map] at hAe hr9 hc9
      cases hAe
      have hT9 := hT7.below hb9
      have ht9 := ht8.trans (hb9.mono ht8.size)
      have hb90 : Below w9.heap.size w9 w9 := Below.refl _ _
      clear hconv hk7 hk6 hT7 hT6 ho9 hb9 hb7 hb6 hb5 ht6 ht8 dRB dR dB dO hSS hcv hE5 hE4 hbt4 hky
      go_loopw [66] (fun iv wr => ∃ k : Nat, k ≤ M ∧ iv = .int .i64 k ∧ Below w9.heap.size w9 wr) (fun iv _ => M - (intOf iv).toNat)
      case atStart => exact ⟨0, Nat.zero_le _, rfl, hb90⟩
      case round =>
        obtain ⟨k, hk, rfl, hb⟩ := hrel
        by_cases d1 : k < M
        · obtain ⟨p, hp⟩ : ∃ p, P[k]? = some p := ⟨_, List.getElem?_eq_getElem (by omega)⟩
          obtain ⟨b9, o9, rfl, hb9l, hx9⟩ := hr9 (by omega)
          have hcell := (hb.cell (p := ⟨b9, o9 + k, none⟩) hb9l).trans (hx9 k (nameAt names p) (by rw [List.getElem?_map, hp]; rfl))
          have hat : atS names P (k : Int) = nameAt names p := by unfold atS; rw [if_neg (by omega), Int.toNat_natCast, hp]
          have dT := at_any names P hvals tb (k : Int) wr (hT9.below hb) (by omega) (by omega)
          rw [hat] at dT
          have htest : (!(mk (nameAt names p)).toList == (mk (nameAt names p)).toList) = false := by rw [mk_eq, decide_eq_true rfl]; rfl
          generalize nameAt names p = nm0 at *
          have z1 : (0 : Int) ≤ (k : Int) := by omega
          have z2 : (k : Int) < (M : Int) := by omega
          clear hat hp hx9
          go_wp2_with (go_at_call 15; with_reducible refine dT.mono ?_; rintro e w10 ⟨rfl, hb10⟩)
          have hb10' := bt hb hb10
          go_roundw
          case rel => exact ⟨k + 1, by omega, by go_num, hb10'⟩
          case measure => simp [intOf]; omega
        · have dT1 := at_any names P hvals tb (-1) wr (hT9.below hb) (by omega) (by omega)
          have dT2 := fun W h => at_any names P hvals tb (M : Int) W h (by omega) (by omega)
          rw [show atS names P (-1) = [] by unfold atS; rw [if_pos (by omega)]] at dT1
          rw [show atS names P (M : Int) = [] from at_none M (by omega)] at dT2
          have d3 : ¬ (k : Int) < (M : Int) := by omega
          have hem : Hid (mk [] = ⟨#[]⟩) := Lib.hid rfl
          rw [hem.out] at dT1 dT2
          go_wp2_with (go_at_call 15; with_reducible refine dT1.mono ?_; rintro e w10 ⟨rfl, hb10⟩)
          have hb10' := bt hb hb10
          go_wp2_with (go_at_call 15; with_reducible refine (dT2 _ (hT9.below hb10')).mono ?_; rintro e w11 ⟨rfl, hb11⟩)
          go_ret
          exact ⟨rfl, bt ht9 (bt hb10' hb11)⟩
end Go.Proofs.Ytelcaedgiiecdaa.Ma
