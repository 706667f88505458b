/- The law of RingPicks (printed by genQ.py). -/
import Derived.Test.YtiamkhhnnlgemaaDoorRiM
import Derived.Test.YtiamkhhnnlgemaaDoorRiV
namespace Go.Proofs.YtiamkhhnnlgemaaDoor.Ri
open Go.RowKit Go.Proofs.YtiamkhhnnlgemaaDoor.Sip Go.Proofs.YtiamkhhnnlgemaaDoor.Oct
set_option linter.unusedVariables false
theorem pts_names {K : List UInt8} {per : Int} {F : List Ent} {ys : List Pt} (hp : ys.Perm (ptsAll K per F)) (hF : ∀ x ∈ F, x.1.length ≤ 13) : ∀ p ∈ ys, p.2.length ≤ 1000 := fun p h => by
  have := hp.mem_iff.1 h
  unfold ptsAll at this
  obtain ⟨x, hm, hx⟩ := List.mem_flatMap.1 this
  unfold ptsE at hx
  obtain ⟨i, _, rfl⟩ := List.mem_map.1 hx
  have := hF x hm
  show x.1.length ≤ 1000
  omega
set_option maxRecDepth 100000 in
set_option maxHeartbeats 8000000 in
theorem picks_law (key : List UInt8) (xs : List Ent) (v : Value) (m : Int) (w : World) (he : Env w) (hv : Ents w v xs) (hN : xs.length ≤ 140737488355328) (hT : ∀ x ∈ xs, x.1.length ≤ 9223372036854775807) :
    Calls Tryd.prog 5 #[.string (mk key), v, .int .u64 m] w fun e w' => e = .returned (.bool true) ∧ Below w.heap.size w w' := by
  have dA := awake_any w he
  have dF := fun W h => few_any 5 (by omega) xs v W h hN hT
  have hFl := few_len 5 xs
  have hFm : ∀ x ∈ few12 5 xs, x.1.length ≤ 13 := fun x h => few_mem h
  generalize few12 5 xs = F at *
  have hKl := keyL_len key
  have dK0 := fun W => keyOf_any key W
  generalize keyL key = K at *
  obtain ⟨k0, k1, k2, k3, k4, k5, k6, k7, k8, k9, k10, k11, k12, k13, k14, k15, rfl⟩ := list16 hKl
  have dK : ∀ W, Calls Tryd.prog 9 #[.string (mk key)] W fun e w' => e = .returned (.agg #[.int .u8 (k0.toNat : Int), .int .u8 (k1.toNat : Int), .int .u8 (k2.toNat : Int), .int .u8 (k3.toNat : Int), .int .u8 (k4.toNat : Int), .int .u8 (k5.toNat : Int), .int .u8 (k6.toNat : Int), .int .u8 (k7.toNat : Int), .int .u8 (k8.toNat : Int), .int .u8 (k9.toNat : Int), .int .u8 (k10.toNat : Int), .int .u8 (k11.toNat : Int), .int .u8 (k12.toNat : Int), .int .u8 (k13.toNat : Int), .int .u8 (k14.toNat : Int), .int .u8 (k15.toNat : Int)]) ∧ Below W.heap.size W w' := fun W => dK0 W
  clear dK0
  go_enter Tryd.func5, Tryd.ntmps5
  go_wp2_with (first
    | (go_at_call 7; refine dA.mono ?_; rintro e w1 ⟨rfl, hb1⟩)
    | (go_at_call 8; refine (dF _ (hv.below hb1)).mono ?_; rintro e w2 ⟨u, rfl, hown, hb2⟩; obtain ⟨A, cp, rfl, _, _⟩ := row_ents hown)
    | (go_at_call 9; refine (dK _).mono ?_; rintro e w3 ⟨rfl, hb3⟩))
  have hbt := bt (bt hb1 hb2) hb3
  have hE0 := (row_ents hown).below hb3
  have hky := bytesRange (show BytesAt (w3.alloc (.cells #[.int .u8 (k0.toNat : Int), .int .u8 (k1.toNat : Int), .int .u8 (k2.toNat : Int), .int .u8 (k3.toNat : Int), .int .u8 (k4.toNat : Int), .int .u8 (k5.toNat : Int), .int .u8 (k6.toNat : Int), .int .u8 (k7.toNat : Int), .int .u8 (k8.toNat : Int), .int .u8 (k9.toNat : Int), .int .u8 (k10.toNat : Int), .int .u8 (k11.toNat : Int), .int .u8 (k12.toNat : Int), .int .u8 (k13.toNat : Int), .int .u8 (k14.toNat : Int), .int .u8 (k15.toNat : Int)] 26)) w3.heap.size [k0, k1, k2, k3, k4, k5, k6, k7, k8, k9, k10, k11, k12, k13, k14, k15] 26 from blkNew _ _)
  have hb4 := (Below.refl _ w3).alloc (Nat.le_refl _) (.cells #[.int .u8 (k0.toNat : Int), .int .u8 (k1.toNat : Int), .int .u8 (k2.toNat : Int), .int .u8 (k3.toNat : Int), .int .u8 (k4.toNat : Int), .int .u8 (k5.toNat : Int), .int .u8 (k6.toNat : Int), .int .u8 (k7.toNat : Int), .int .u8 (k8.toNat : Int), .int .u8 (k9.toNat : Int), .int .u8 (k10.toNat : Int), .int .u8 (k11.toNat : Int), .int .u8 (k12.toNat : Int), .int .u8 (k13.toNat : Int), .int .u8 (k14.toNat : Int), .int .u8 (k15.toNat : Int)] 26)
  have hE4 := hE0.below hb4
  have hbt4 := bt hbt hb4
  have hz4 : w3.heap.size < (w3.alloc (.cells #[.int .u8 (k0.toNat : Int), .int .u8 (k1.toNat : Int), .int .u8 (k2.toNat : Int), .int .u8 (k3.toNat : Int), .int .u8 (k4.toNat : Int), .int .u8 (k5.toNat : Int), .int .u8 (k6.toNat : Int), .int .u8 (k7.toNat : Int), .int .u8 (k8.toNat : Int), .int .u8 (k9.toNat : Int), .int .u8 (k10.toNat : Int), .int .u8 (k11.toNat : Int), .int .u8 (k12.toNat : Int), .int .u8 (k13.toNat : Int), .int .u8 (k14.toNat : Int), .int .u8 (k15.toNat : Int)] 26)).heap.size := by simp
  generalize w3.alloc (.cells #[.int .u8 (k0.toNat : Int), .int .u8 (k1.toNat : Int), .int .u8 (k2.toNat : Int), .int .u8 (k3.toNat : Int), .int .u8 (k4.toNat : Int), .int .u8 (k5.toNat : Int), .int .u8 (k6.toNat : Int), .int .u8 (k7.toNat : Int), .int .u8 (k8.toNat : Int), .int .u8 (k9.toNat : Int), .int .u8 (k10.toNat : Int), .int .u8 (k11.toNat : Int), .int .u8 (k12.toNat : Int), .int .u8 (k13.toNat : Int), .int .u8 (k14.toNat : Int), .int .u8 (k15.toNat : Int)] 26) = w4 at *
  generalize ([k0, k1, k2, k3, k4, k5, k6, k7, k8, k9, k10, k11, k12, k13, k14, k15] : List UInt8) = K at *
  generalize w3.heap.size = q at *
  have he4 : Env w4 := he.below hbt4
  have hcsz : (Tryd.prog.info? 26).map (·.size) = some (keyV K).length := by
    rw [show (keyV K).length = 16 by unfold keyV; rw [List.length_map, hKl]]; kernel_rfl
  have hcu := Tryd.underlying26
  have hSS : ∀ w', Kps w4.heap.size w4 w' → (w'.rangeAt q 0 (keyV K) ∧ Kps w4.heap.size w4 w') := fun w' hk => ⟨hk.range hz4 hky, hk⟩
  have hK0 : Kps w4.heap.size w4 w4.drew := ⟨(Below.refl _ w4).drew, Nat.le_refl _⟩
  have dO : ∀ W, Kps w4.heap.size w4 W → Calls Tryd.prog 11 #[.slice A F.length cp] W fun e w' => ∃ (A5 : Option Addr) (c5 : Nat), e = .returned (.slice A5 F.length c5) ∧ Ents w' (.slice A5 F.length c5) F ∧ Below W.heap.size W w' := fun W h => (own_any F (.slice A F.length cp) W (hE4.below h.1) (by omega)).mono (by
    rintro e w' ⟨u, rfl, ho, hb⟩
    have hE := row_ents ho
    obtain ⟨A5, c5, rfl⟩ := row_slice ho
    exact ⟨A5, c5, rfl, hE, hb⟩)
  clear hown hb1 hb2 hb3 hb4 dA dF dK hE0 hbt
  have dR := fun W h => refCheck_any F (.slice A F.length cp) W h (by omega)
  rcases Classical.em (OkR F) with hok | hok
  case inr =>
    rw [errR_1 hok] at dR
    have dB : ∀ (per : Int) (v' : Value) (W : World), Ents W v' F → Calls Tryd.prog 10 #[.agg (keyV K).toArray, v', .int .i64 per] W fun e w' => Below W.heap.size W w' ∧ e = .returned (.tuple #[.pointer none, .int .i64 1]) := fun per v' W h => build_no K hKl F hok per v' W h (by omega) (fun x hx => by have := hFm x hx; omega)
    go_region_held3 (fun w' => w'.rangeAt q 0 (keyV K) ∧ Kps w4.heap.size w4 w')
      (first
        | exact hSS _ hK0
        | (go_split_ands; exact hSS _ (by assumption))
        | (go_split_ands; refine hSS _ (Kps.call ?_ hb5); assumption)
        | (go_split_ands; refine hSS _ (Kps.call ?_ hb6); assumption))
      (first
        | (go_at_call 11; refine (dO _ (by go_split_ands; assumption)).mono ?_; rintro e w5 ⟨A5, c5, rfl, hE5, hb5⟩)
        | (go_at_call 10; refine (dB _ _ _ hE5).mono ?_; rintro e w6 ⟨hb6, rfl⟩))
    have hk6 : Kps w4.heap.size w4 w6 := by go_split_ands; assumption
    have ht6 := hbt4.trans (hk6.1.mono hbt4.size)
    go_wp2_with (go_at_call 12; refine (dR _ (hE4.below hk6.1)).mono ?_; rintro e w7 ⟨rfl, hb7⟩)
    go_ret
    exact ⟨rfl, bt ht6 hb7⟩
  rw [errR_0 hok] at dR
  have dB : ∀ (per : Int) (v' : Value) (W : World), Kps w4.heap.size w4 W → Ents W v' F → Calls Tryd.prog 10 #[.agg (keyV K).toArray, v', .int .i64 per] W fun e w' => Below W.heap.size W w' ∧ ∃ (rb : Nat) (ys : List Pt), e = .returned (.tuple #[.pointer (some ⟨rb, 0, none⟩), .int .i64 0]) ∧ ys.Perm (ptsAll K per F) ∧ SrtP ys ∧ Rng w' rb ys ∧ W.heap.size ≤ rb := fun per v' W hk h => build_ok K hKl F hok per v' W h (fun x hx => by have := hFm x hx; omega) (he4.below hk.1)
  go_region_held3 (fun w' => w'.rangeAt q 0 (keyV K) ∧ Kps w4.heap.size w4 w')
    (first
      | exact hSS _ hK0
      | (go_split_ands; exact hSS _ (by assumption))
      | (go_split_ands; refine hSS _ (Kps.call ?_ hb5); assumption)
      | (go_split_ands; refine hSS _ (Kps.call ?_ hb6); assumption))
    (first
      | (go_at_call 11; refine (dO _ (by go_split_ands; assumption)).mono ?_; rintro e w5 ⟨A5, c5, rfl, hE5, hb5⟩; have hk5 := hK0.call hb5)
      | (go_at_call 10; refine (dB _ _ _ hk5 hE5).mono ?_; rintro e w6 ⟨hb6, rb, ys, rfl, hp, hs, hR6, htb⟩))
  have hk6 : Kps w4.heap.size w4 w6 := by go_split_ands; assumption
  have ht6 := hbt4.trans (hk6.1.mono hbt4.size)
  have hcv : ∀ W, Kps w4.heap.size w4 W → (convert 37 9 (.slice (some ⟨q, 0, none⟩) 16 16)).run Tryd.prog W = .ok (.string (mk K)) W := fun W h => by
    have hr := (hSS W h).1
    have h1 := run_convert_bytes_back (P := Tryd.prog) W 37 9 5 ⟨q, 0, none⟩ 16 K Tryd.underlying37 Tryd.underlying5 Tryd.underlying9 (fun j hj => by
      rw [Addr.add_mid, hr j (.int .u8 (K[j].toNat : Int)) (by unfold keyV; rw [List.getElem?_map, List.getElem?_eq_getElem hj]; rfl)])
    rw [hKl] at h1
    exact h1
  have hU := Lib.hid (fun (per : Int) (hp : ys.Perm (ptsAll K per F)) => (show (ptsAll K per F).foldl insR [] = ys from srtP_unique (((insAll_perm (ptsAll K per F) []).trans (by rw [List.append_nil])).trans hp.symm) (insAll_srt _ _ List.Pairwise.nil) hs))
  have dRB := fun (per : Int) W h => refBuild_any K hKl F hok per (.slice A F.length cp) W h (fun x hx => by have := hFm x hx; omega)
  have hyl : ys.length ≤ 262144 := by
    rw [hp.length_eq]
    exact pts_len K _ F hok
  have hpH := Lib.hid hp
  have hnl : ∀ p ∈ ys, p.2.length ≤ 1000 := pts_names hp hFm
  clear hp
  go_wp2_with (first
    | (go_at_call 12; refine (dR _ (hE4.below hk6.1)).mono ?_; rintro e w7 ⟨rfl, hb7⟩; have hk7 := hk6.call hb7; have hR7 := hR6.below hb7; have hconv := hcv w7 hk7))
  have ht7 := ht6.trans (hb7.mono ht6.size)
  by_cases c2 : 0 < ys.length
  · go_wp2_with (go_at_call 13; refine (dRB _ _ (hE4.below hk7.1)).mono ?_; rintro e w9 ⟨u9, rfl, ho9, hb9⟩; rw [hU.out _ hpH.out] at ho9; obtain ⟨A9, c9, rfl⟩ := row_slice ho9; have hR9 := hR7.below hb9)
    have ht9 := ht7.trans (hb9.mono ht7.size)
    have hP9 := row_pts ho9
    have hwl : (walkF (roundL ys (fromN ys m))).length ≤ 1000000 := by
      have h1 := walkF_len (roundL ys (fromN ys m))
      have h2 : (roundL ys (fromN ys m)).length = ys.length := by
        rcases fromN_lt ys m with h | h
        · rw [h]; simp [roundL]
        · exact round_len _ _ (by omega)
      omega
    have dP := fun W h => pick_any ys hs m rb W h (by omega)
    have dW := fun W h => walk_any ys hs m rb W h (by omega) hnl
    have dFR := fun W h => refFrom_any ys m (.slice A9 ys.length c9) W h (by omega)
    have dWR := fun W h => refWalk_any ys m (.slice A9 ys.length c9) W h (by omega)
    have hfl := fromN_lt ys m
    have hpk : pickS ys m = match (roundL ys (fromN ys m))[0]? with
      | none => []
      | some p => p.2 := rfl
    generalize walkF (roundL ys (fromN ys m)) = WR at *
    have dS := fun va vb W ha hb => same_any WR WR va vb W ha hb (by omega)
    rw [decide_eq_true rfl] at dS
    clear hconv hk7 hk6 hR7 hR6 ho9 hb9 hb7 hb6 hb5 ht6 ht7 dRB dR dB dO hSS hcv hE5 hE4 hbt4 hky hU hpH hnl hwl
    have hal : fromN ys m < ys.length := by rcases hfl with h | h; (subst h; simp at c2); exact h
    have hr0 := round_get ys (fromN ys m) 0 hal c2
    rw [Nat.add_zero, Nat.mod_eq_of_lt hal] at hr0
    obtain ⟨p, hp⟩ : ∃ p, ys[fromN ys m]? = some p := ⟨_, List.getElem?_eq_getElem hal⟩
    rw [hr0, hp] at hpk
    simp only at hpk
    obtain ⟨A9', c9', hAe, hc9, hr9⟩ := id hP9
    cases hAe
    obtain ⟨b9, o9, rfl, hb9l, hx9⟩ := hr9 c2
    obtain ⟨e0, e1⟩ := hx9 _ p hp
    generalize pickS ys m = n at *
    subst hpk
    generalize fromN ys m = a at *
    have z1 : (0 : Int) ≤ (a : Int) := by omega
    have z2 : (a : Int) < (ys.length : Int) := by omega
    have htest : ((mk p.2).toList == (mk p.2).toList) = true := by rw [mk_eq, decide_eq_true rfl]
    clear hr0 hp hx9 hr9 hfl
    go_wp2_with (first
      | (go_at_call 16; (with_reducible refine (dFR _ hP9).mono ?_); rintro e w10 ⟨rfl, hb10⟩; have q0 := (hb10.cell (p := ⟨b9, o9 + a * 2, none⟩) hb9l).trans e0; have q1 := (hb10.cell (p := ⟨b9, o9 + a * 2 + 1, none⟩) hb9l).trans e1))
    have hR10 := hR9.below hb10
    have hP10 := hP9.below hb10
    have ht10 := bt ht9 hb10
    clear q0 q1 e0 e1 hb10 hR9 hP9 ht9 dFR
    go_wp2_with (first
      | (go_at_call 17; (with_reducible refine (dP _ hR10).mono ?_); rintro e w11 ⟨rfl, hb11⟩))
    have hR11 := hR10.below hb11
    have hP11 := hP10.below hb11
    have ht11 := bt ht10 hb11
    clear hR10 hP10 ht10 hb11 dP
    go_wp2_with (first
      | (go_at_call 19; (with_reducible refine (dW _ hR11).mono ?_); rintro e w12 ⟨u12, rfl, ho12, hb12⟩))
    have hP12 := hP11.below hb12
    have ht12 := bt ht11 hb12
    have hS12 := own_strs ho12
    clear hR11 hP11 ht11 hb12 dW ho12
    go_wp2_with (first
      | (go_at_call 20; (with_reducible refine (dWR _ hP12).mono ?_); rintro e w13 ⟨u13, rfl, ho13, hb13⟩))
    have ht13 := bt ht12 hb13
    have hS13 := strs_below hS12 hb13
    have hT13 := own_strs ho13
    clear hP12 ht12 hb13 dWR ho13 hS12
    go_wp2_with (first
      | (go_at_call 18; (with_reducible refine (dS _ _ _ hS13 hT13).mono ?_); rintro e w14 ⟨rfl, hb14⟩))
    go_ret
    exact ⟨rfl, bt ht13 hb14⟩
  · go_wp2_with (go_at_call 13; refine (dRB _ _ (hE4.below hk7.1)).mono ?_; rintro e w9 ⟨u9, rfl, ho9, hb9⟩; rw [hU.out _ hpH.out] at ho9; obtain ⟨A9, c9, rfl⟩ := row_slice ho9; have hR9 := hR7.below hb9)
    have ht9 := ht7.trans (hb9.mono ht7.size)
    have hP9 := row_pts ho9
    have hwl : (walkF (roundL ys (fromN ys m))).length ≤ 1000000 := by
      have h1 := walkF_len (roundL ys (fromN ys m))
      have h2 : (roundL ys (fromN ys m)).length = ys.length := by
        rcases fromN_lt ys m with h | h
        · rw [h]; simp [roundL]
        · exact round_len _ _ (by omega)
      omega
    have dP := fun W h => pick_any ys hs m rb W h (by omega)
    have dW := fun W h => walk_any ys hs m rb W h (by omega) hnl
    have dFR := fun W h => refFrom_any ys m (.slice A9 ys.length c9) W h (by omega)
    have dWR := fun W h => refWalk_any ys m (.slice A9 ys.length c9) W h (by omega)
    have hfl := fromN_lt ys m
    have hpk : pickS ys m = match (roundL ys (fromN ys m))[0]? with
      | none => []
      | some p => p.2 := rfl
    generalize walkF (roundL ys (fromN ys m)) = WR at *
    have dS := fun va vb W ha hb => same_any WR WR va vb W ha hb (by omega)
    rw [decide_eq_true rfl] at dS
    clear hconv hk7 hk6 hR7 hR6 ho9 hb9 hb7 hb6 hb5 ht6 ht7 dRB dR dB dO hSS hcv hE5 hE4 hbt4 hky hU hpH hnl hwl
    have hy0 : ys = [] := List.eq_nil_of_length_eq_zero (by omega)
    have hpn : pickS ys m = [] := by rw [hpk, hy0]; rfl
    rw [hpn, show mk [] = (⟨#[]⟩ : ByteArray) from rfl] at dP
    have htest : ((⟨#[]⟩ : ByteArray).toList == (⟨#[]⟩ : ByteArray).toList) = true := by simp
    clear hpk hpn hfl hy0
    go_wp2_with (first
      | (go_at_call 17; (with_reducible refine (dP _ hR9).mono ?_); rintro e w11 ⟨rfl, hb11⟩))
    have hR11 := hR9.below hb11
    have hP11 := hP9.below hb11
    have ht11 := bt ht9 hb11
    clear hR9 hP9 ht9 hb11 dP
    go_wp2_with (first
      | (go_at_call 19; (with_reducible refine (dW _ hR11).mono ?_); rintro e w12 ⟨u12, rfl, ho12, hb12⟩))
    have hP12 := hP11.below hb12
    have ht12 := bt ht11 hb12
    have hS12 := own_strs ho12
    clear hR11 hP11 ht11 hb12 dW ho12
    go_wp2_with (first
      | (go_at_call 20; (with_reducible refine (dWR _ hP12).mono ?_); rintro e w13 ⟨u13, rfl, ho13, hb13⟩))
    have ht13 := bt ht12 hb13
    have hS13 := strs_below hS12 hb13
    have hT13 := own_strs ho13
    clear hP12 ht12 hb13 dWR ho13 hS12
    go_wp2_with (first
      | (go_at_call 18; (with_reducible refine (dS _ _ _ hS13 hT13).mono ?_); rintro e w14 ⟨rfl, hb14⟩))
    go_ret
    exact ⟨rfl, bt ht13 hb14⟩
end Go.Proofs.YtiamkhhnnlgemaaDoor.Ri
