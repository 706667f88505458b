/- The law of order. -/
import Derived.Test.YtclngmjfhlindaaMaS
namespace Go.Proofs.Ytclngmjfhlindaa.Ma
open Go.RowKit Go.Proofs.Ytclngmjfhlindaa.Sip
set_option linter.unusedVariables false
theorem okM_perm {xs ys : List Ent} {m : Int} (h : ys.Perm xs) (hok : OkM xs m) : OkM ys m :=
  ⟨hok.1, by rw [h.length_eq]; exact hok.2.1, by rw [h.length_eq]; exact hok.2.2.1, fun x hx => hok.2.2.2.1 x (h.mem_iff.1 hx), (h.map Prod.fst).nodup_iff.2 hok.2.2.2.2⟩
theorem own_strs {w : World} {base : Nat} {v : Value} {xs : List (List UInt8)} (h : OwnStrs w base v xs) : Strs w v xs := row_strs h
theorem strs_below {w w' : World} {v : Value} {xs : List (List UInt8)} (h : Strs w v xs) (hb : Below w.heap.size w w') : Strs w' v xs := by
  obtain ⟨A, c, rfl, hc, hr⟩ := h
  refine ⟨A, c, rfl, hc, fun hp => ?_⟩
  obtain ⟨q, o, rfl, hq, hx⟩ := hr hp
  exact ⟨q, o, rfl, Nat.lt_of_lt_of_le hq hb.size, fun j x hj => old2 (hx j x hj) hq hb⟩
theorem rev_take (F : List Ent) (k : Nat) (hk : k < F.length) : F.reverse.take (k + 1) = F.reverse.take k ++ [F[F.length - 1 - k]'(by omega)] := by
  rw [List.take_succ_eq_append_getElem (by simpa using hk), List.getElem_reverse]
set_option maxRecDepth 100000 in
set_option maxHeartbeats 4000000 in
theorem order_law (key : List UInt8) (xs : List Ent) (v : Value) (x : Nat) (hx : x < 18446744073709551616) (w : World) (hv : Ents w v xs) (hN : xs.length ≤ 140737488355328) (hT : ∀ x ∈ xs, x.1.length ≤ 9223372036854775807) :
    Calls Try.prog 5 #[.string (mk key), v, .int .u64 x] w fun e w' => e = .returned (.bool true) ∧ Below w.heap.size w w' := by
  obtain ⟨i0, hi, hz0, hz1, hz2⟩ := info_parts infoE
  have dA := awake_any w
  have dF := fun W h => few_any 5 (by omega) xs v W h hN hT
  have hFl := few_len 5 xs
  have hFm : ∀ x ∈ few12 5 xs, x.1.length ≤ 13 := fun x h => few_mem h
  generalize few12 5 xs = F at *
  have z0 : IntKind.i64.wrap ((F.length : Int) - 1) = (F.length : Int) - 1 := IntWalk.i64_in _ (by omega)
  go_enter Try.func5, Try.ntmps5
  go_wp2_with (first
    | (go_at_call 7; refine dA.mono ?_; rintro e w1 ⟨rfl, hb1⟩)
    | (go_at_call 8; refine (dF _ (hv.below hb1)).mono ?_; rintro e w2 ⟨u, rfl, hown, hb2⟩; obtain ⟨A, cp, rfl, _, _⟩ := row_ents hown))
  have hbt := bt hb1 hb2
  have hEF := row_ents hown
  have hg0 : w2.heap.size ≤ w2.heap.size := Nat.le_refl _
  have hbb : Below w2.heap.size w2 w2 := Below.refl _ _
  have ho0 : w2.ownsRow w2.heap.size 42 2 (.slice none 0 0) 0 ((F.reverse.take 0).flatMap entV) := World.ownsRow_nil _ _ _ _
  obtain ⟨A', c', hAe, hcA, hrF⟩ := hEF
  cases hAe
  clear hown dF dA hb1 hb2 z0
  go_loopw [8, 9] (fun uv iv wr => ∃ (k : Nat) (z : Int) (u : Value), u = uv ∧ k ≤ F.length ∧ iv = .int .i64 z ∧ z = (F.length : Int) - 1 - k ∧ wr.ownsRow w2.heap.size 42 2 u k ((F.reverse.take k).flatMap entV) ∧ Below w2.heap.size w2 wr) (fun _ iv _ => (intOf iv + 1).toNat)
  case atStart => exact ⟨0, _, _, rfl, Nat.zero_le _, rfl, by simp, ho0, hbb⟩
  case round =>
    obtain ⟨k, z, u, rfl, hk, rfl, hz, hown, hb⟩ := hrel
    by_cases c1 : k < F.length
    · obtain ⟨q, rfl⟩ := Int.eq_ofNat_of_zero_le (show 0 ≤ z by omega)
      have hq : q = F.length - 1 - k := by omega
      have hqF : q < F.length := by omega
      obtain ⟨b, o, rfl, hbl, hxF⟩ := hrF (by omega)
      obtain ⟨h1, h2⟩ := hxF q F[q] (List.getElem?_eq_getElem hqF)
      have hc0 := (hb.cell (p := ⟨b, o + q * 2, none⟩) hbl).trans h1
      have hc1 := (hb.cell (p := ⟨b, o + q * 2 + 1, none⟩) hbl).trans h2
      have hnx := Lib.hid (show (F.reverse.take (k + 1)).flatMap entV = (F.reverse.take k).flatMap entV ++ [.string (mk F[q].1), .int .i64 F[q].2] by
        rw [rev_take F k c1, List.flatMap_append]
        subst hq
        rfl)
      generalize F[q] = y at *
      have d1 : (0 : Int) ≤ (q : Int) := by omega
      have d2 : (q : Int) < (F.length : Int) := by omega
      have d3 : IntKind.i64.wrap ((q : Int) - 1) = (q : Int) - 1 := IntWalk.i64_in _ (by omega)
      have hbk := heap_alloc_new wr (Obj.cells #[.string (mk y.1), .int .i64 y.2] 42)
      have hgw := hb.size
      clear h1 h2 hxF
      have hz' := Lib.hid hz
      have hq' := Lib.hid hq
      clear hz hq
      go_wp2_with (at_builtin; go_must (refine wpList_append_own _ rfl _ _ 22 rfl w2.heap.size 42 i0 _ 2 24 Try.underlying22 hi hz0 hz1 hz2 rfl (by decide) _ _ _ rfl (hown.alloc _) ⟨_, 0, none⟩ 1 1 [.string (mk y.1), .int .i64 y.2] rfl rfl (World.news_of_block hbk) (by simp [Value.oneCell']) (by unfold maxLen; omega) (by omega) (by simp; omega) ?_; intro v' w5 hown' hgrow _))
      go_roundw
      case rel => exact ⟨k + 1, _, _, rfl, by omega, by first | rfl | go_num, by have := hz'.out; omega, by rw [hnx.out]; exact hown', grow_low (hb.alloc hgw _) (by simp; omega) hgrow (fun b e => (hown.lt b e).1)⟩
      case measure => first | (simp [intOf]; done) | (simp [intOf]; omega)
    · have hkn : k = F.length := by omega
      have hrl : (F.reverse.take k) = F.reverse := List.take_of_length_le (by simp; omega)
      rw [hrl] at hown
      have hown2 : wr.ownsRow w2.heap.size 42 2 u F.reverse.length (F.reverse.flatMap entV) := by rw [List.length_reverse, ← hkn]; exact hown
      have hE1 : Ents wr (.slice A F.length cp) F := Ents.below ⟨A, cp, rfl, hcA, hrF⟩ hb
      have hE2 := row_ents hown2
      obtain ⟨A2, c2, rfl⟩ := row_slice hown2
      have hbt2 := bt hbt hb
      have hzn : z < 0 := by omega
      have hp : F.reverse.Perm F := List.reverse_perm F
      have hFm2 : ∀ x ∈ F.reverse, x.1.length ≤ 13 := fun x h => hFm x (List.mem_reverse.1 h)
      have hFl2 : F.reverse.length ≤ 5 := by rw [List.length_reverse]; exact hFl
      have dR := fun W h => refCheck_any F 503 (.slice A F.length cp) W h (by omega)
      have hKl := keyL_len key
      have dK := fun W => keyOf_any key W
      generalize keyL key = K at *
      have dO1 := fun W h => own_any F (.slice A F.length cp) W h (by omega)
      have dO2 := fun W h => own_any F.reverse (.slice A2 F.reverse.length c2) W h (by omega)
      clear hz hown hown2 hrl hrF hcA hkn hv hbt hb hbb hg0 ho0
      generalize hFR : F.reverse = R at *
      clear hFR
      rcases Classical.em (OkM F ((503 : Nat) : Int)) with hok | hok
      case inr =>
        have hok2 : ¬ OkM R ((503 : Nat) : Int) := fun h => hok (okM_perm hp.symm h)
        have he : errM F 503 = 1 := errM_1 hok
        rw [he] at dR
        have dB1 := fun v' W h => build_no K hKl F 503 hok v' W h (by omega) (fun x hx => by have := hFm x hx; omega)
        have dB2 := fun v' W h => build_no K hKl R 503 hok2 v' W h (by omega) (fun x hx => by have := hFm2 x hx; omega)
        go_wp2_with (go_at_call 9; refine (dK _).mono ?_; rintro e w3 ⟨rfl, hb3⟩)
        have hE13 := hE1.below hb3
        have hE23 := hE2.below hb3
        have ht3 := bt hbt2 hb3
        go_wp2_with (go_at_call 11; refine (dO1 _ hE13).mono ?_; rintro e w4 ⟨u4, rfl, hown4, hb4⟩; obtain ⟨A4, c4, rfl, _, _⟩ := row_ents hown4)
        go_wp2_with (go_at_call 10; refine (dB1 _ _ (row_ents hown4)).mono ?_; rintro e w5 ⟨hb5, rfl⟩)
        have hE15 := (hE13.below hb4).below hb5
        have hE25 := (hE23.below hb4).below hb5
        have ht5 := bt (bt ht3 hb4) hb5
        go_wp2_with (go_at_call 9; refine (dK _).mono ?_; rintro e w6 ⟨rfl, hb6⟩)
        have hE26 := hE25.below hb6
        go_wp2_with (go_at_call 11; refine (dO2 _ hE26).mono ?_; rintro e w7 ⟨u7, rfl, hown7, hb7⟩; obtain ⟨A7, c7, rfl, _, _⟩ := row_ents hown7)
        go_wp2_with (go_at_call 10; refine (dB2 _ _ (row_ents hown7)).mono ?_; rintro e w8 ⟨hb8, rfl⟩)
        have hE18 := ((hE15.below hb6).below hb7).below hb8
        have ht8 := bt (bt (bt ht5 hb6) hb7) hb8
        go_wp2_with (go_at_call 12; with_reducible refine (dR _ hE18).mono ?_; rintro e w9 ⟨rfl, hb9⟩)
        go_ret
        exact ⟨rfl, bt ht8 hb9⟩
      have hok2 : OkM R ((503 : Nat) : Int) := okM_perm hp hok
      have he : errM F 503 = 0 := errM_0 hok
      rw [he] at dR
      have dB1 := fun v' W h => build_ok K hKl F 503 hok v' W h (fun x hx => by have := hFm x hx; omega)
      have dB2 := fun v' W h => build_ok K hKl R 503 hok2 v' W h (fun x hx => by have := hFm2 x hx; omega)
      go_wp2_with (go_at_call 9; refine (dK _).mono ?_; rintro e w3 ⟨rfl, hb3⟩)
      have hE13 := hE1.below hb3
      have hE23 := hE2.below hb3
      have ht3 := bt hbt2 hb3
      go_wp2_with (go_at_call 11; refine (dO1 _ hE13).mono ?_; rintro e w4 ⟨u4, rfl, hown4, hb4⟩; obtain ⟨A4, c4, rfl, _, _⟩ := row_ents hown4)
      go_wp2_with (go_at_call 10; refine (dB1 _ _ (row_ents hown4)).mono ?_; rintro e w5 ⟨hb5, ys, tb1, hp1, hs1, rfl, htb1, hT15, hok15⟩)
      have hE15 := (hE13.below hb4).below hb5
      have hE25 := (hE23.below hb4).below hb5
      have ht5 := bt (bt ht3 hb4) hb5
      go_wp2_with (go_at_call 9; refine (dK _).mono ?_; rintro e w6 ⟨rfl, hb6⟩)
      have hE26 := hE25.below hb6
      go_wp2_with (go_at_call 11; refine (dO2 _ hE26).mono ?_; rintro e w7 ⟨u7, rfl, hown7, hb7⟩; obtain ⟨A7, c7, rfl, _, _⟩ := row_ents hown7)
      go_wp2_with (go_at_call 10; refine (dB2 _ _ (row_ents hown7)).mono ?_; rintro e w8 ⟨hb8, ys2, tb2, hp2, hs2, rfl, htb2, hT28, hok28⟩)
      have hys : ys2 = ys := srt_unique (xs := F) hok.2.2.2.2 (hp2.trans hp) hp1 hs2 hs1
      subst hys
      have hE18 := ((hE15.below hb6).below hb7).below hb8
      have hT18 := ((hT15.below hb6).below hb7).below hb8
      have ht8 := bt (bt (bt ht5 hb6) hb7) hb8
      have hvals := plc_vals (K := K) hok28
      have hPl := plc_len (K := K) hok28
      have hnl : (ys2.map Prod.fst).length ≤ 5 := by rw [List.length_map, hp1.length_eq]; exact hFl
      generalize plc K ys2 503 = P at *
      generalize ys2.map Prod.fst = names at *
      clear hE13 hE23 ht3 hown4 hb3 hb4 hb5 hT15 hok15 hE15 hE25 ht5 hb6 hE26 hown7 hb7 hb8 hp1 hp2 hs1 hs2 hok28 dB1 dB2 dO1 dO2 dK htb1 htb2
      go_wp2_with (go_at_call 12; with_reducible refine (dR _ hE18).mono ?_; rintro e w9 ⟨rfl, hb9⟩)
      have hT19 := hT18.below hb9
      have hT29 := hT28.below hb9
      have ht9 := bt ht8 hb9
      have hb90 : Below w9.heap.size w9 w9 := Below.refl _ _
      clear hE18 hT18 hT28 ht8 hb9 dR hE1 hE2
      go_loopw [69] (fun iv wr => ∃ k : Nat, k ≤ 503 ∧ iv = .int .i64 k ∧ Below w9.heap.size w9 wr) (fun iv _ => 503 - (intOf iv).toNat)
      case atStart => exact ⟨0, by omega, rfl, hb90⟩
      case round =>
        obtain ⟨k, hk, rfl, hb⟩ := hrel
        by_cases c5 : k < 503
        · have c5' : (k : Int) < 503 := by omega
          have dT1 := at_any names P hvals tb1 (k : Int) wr (hT19.below hb) (by omega) (by omega)
          have dT2 := fun W h => at_any names P hvals tb2 (k : Int) W h (by omega) (by omega)
          have htest : (!(mk (atS names P (k : Int))).toList == (mk (atS names P (k : Int))).toList) = false := by rw [mk_eq, decide_eq_true rfl]; rfl
          generalize atS names P (k : Int) = nmk at *
          go_wp2_with (go_at_call 15; with_reducible refine dT1.mono ?_; rintro e w10 ⟨rfl, hb10⟩)
          have hb10' := bt hb hb10
          go_wp2_with (go_at_call 15; with_reducible refine (dT2 _ (hT29.below hb10')).mono ?_; rintro e w11 ⟨rfl, hb11⟩)
          have hb11' := bt hb10' hb11
          go_roundw
          case rel => exact ⟨k + 1, by omega, by go_num, hb11'⟩
          case measure => simp [intOf]; omega
        · have hk5 : k = 503 := by omega
          subst hk5
          have dW1 := fun W h => walk_any names P hvals tb1 x hx W h (by omega) (by omega) (by omega)
          have dW2 := fun W h => walk_any names P hvals tb2 x hx W h (by omega) (by omega) (by omega)
          have hwl : (walkS names P (belowN x (P.length : Int)).toNat).length ≤ 5 := by
            unfold walkS
            rw [List.length_map]
            have := (firsts_le hvals (P.drop (belowN x (P.length : Int)).toNat ++ P.take (belowN x (P.length : Int)).toNat) (fun p hp => by
              rcases List.mem_append.1 hp with h | h
              · exact List.mem_of_mem_drop h
              · exact List.mem_of_mem_take h)).1
            omega
          generalize walkS names P (belowN x (P.length : Int)).toNat = S at *
          have dN1 := fun W h => names_any names P tb1 W h (by omega)
          have dN2 := fun W h => names_any names P tb2 W h (by omega)
          have dS := fun va vb W ha hb => same_any S S va vb W ha hb (by omega)
          have dSn := fun va vb W ha hb => same_any names names va vb W ha hb (by omega)
          rw [decide_eq_true rfl] at dS dSn
          go_wp2_with (go_at_call 18; with_reducible refine (dW1 _ (hT19.below hb)).mono ?_; rintro e w10 ⟨v10, rfl, ho10, hb10⟩)
          have hb10' := bt hb hb10
          go_wp2_with (go_at_call 18; with_reducible refine (dW2 _ (hT29.below hb10')).mono ?_; rintro e w11 ⟨v11, rfl, ho11, hb11⟩)
          have hb11' := bt hb10' hb11
          go_wp2_with (go_at_call 17; with_reducible refine (dS _ _ _ (strs_below (own_strs ho10) hb11) (own_strs ho11)).mono ?_; rintro e w12 ⟨rfl, hb12⟩)
          have hb12' := bt hb11' hb12
          go_wp2_with (go_at_call 19; with_reducible refine (dN1 _ (hT19.below hb12')).mono ?_; rintro e w13 ⟨v13, rfl, ho13, hb13⟩)
          have hb13' := bt hb12' hb13
          go_wp2_with (go_at_call 19; with_reducible refine (dN2 _ (hT29.below hb13')).mono ?_; rintro e w14 ⟨v14, rfl, ho14, hb14⟩)
          have hb14' := bt hb13' hb14
          go_wp2_with (go_at_call 17; with_reducible refine (dSn _ _ _ (strs_below (own_strs ho13) hb14) (own_strs ho14)).mono ?_; rintro e w15 ⟨rfl, hb15⟩)
          go_ret
          exact ⟨rfl, bt ht9 (bt hb14' hb15)⟩
end Go.Proofs.Ytclngmjfhlindaa.Ma
