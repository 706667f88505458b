/- The law of RingOrder (printed by genN.py). -/
import Derived.Test.YtmgalgieiaolbaaDoorRiM
namespace Go.Proofs.YtmgalgieiaolbaaDoor.Ri
open Go.RowKit Go.Proofs.YtmgalgieiaolbaaDoor.Sip Go.Proofs.YtmgalgieiaolbaaDoor.Oct
set_option linter.unusedVariables false
attribute [local go_sem ↓] Go.wp_at_zero Go.wp_at_succ
theorem sumI_range (k s : List UInt8) : 0 ≤ sumI k s ∧ sumI k s < 18446744073709551616 := by
  have h := Go.wf_bits .xor .u64 (xorI (xorI (roundI (roundI (roundI (roundI { (takeI (blocks (startI k) s).1 ((le (blocks (startI k) s).2 + (s.length % 256) * 2 ^ 56 : Nat) : Int)) with c := xorI (takeI (blocks (startI k) s).1 ((le (blocks (startI k) s).2 + (s.length % 256) * 2 ^ 56 : Nat) : Int)).c 255 })))).a (roundI (roundI (roundI (roundI { (takeI (blocks (startI k) s).1 ((le (blocks (startI k) s).2 + (s.length % 256) * 2 ^ 56 : Nat) : Int)) with c := xorI (takeI (blocks (startI k) s).1 ((le (blocks (startI k) s).2 + (s.length % 256) * 2 ^ 56 : Nat) : Int)).c 255 })))).b) (roundI (roundI (roundI (roundI { (takeI (blocks (startI k) s).1 ((le (blocks (startI k) s).2 + (s.length % 256) * 2 ^ 56 : Nat) : Int)) with c := xorI (takeI (blocks (startI k) s).1 ((le (blocks (startI k) s).2 + (s.length % 256) * 2 ^ 56 : Nat) : Int)).c 255 })))).c) (roundI (roundI (roundI (roundI { (takeI (blocks (startI k) s).1 ((le (blocks (startI k) s).2 + (s.length % 256) * 2 ^ 56 : Nat) : Int)) with c := xorI (takeI (blocks (startI k) s).1 ((le (blocks (startI k) s).2 + (s.length % 256) * 2 ^ 56 : Nat) : Int)).c 255 })))).d
  have e : sumI k s = _ := rfl
  have h2 : (Lit.int .u64 (sumI k s)).wf = true := h
  simp only [Lit.wf, IntKind.min, IntKind.max, IntKind.bits, IntKind.signed] at h2
  simp at h2
  omega
theorem okR_perm {xs ys : List Ent} (h : ys.Perm xs) (hok : OkR xs) : OkR ys :=
  ⟨by rw [h.length_eq]; exact hok.1, fun x hx => hok.2.1 x (h.mem_iff.1 hx), (h.map Prod.fst).nodup_iff.2 hok.2.2⟩
theorem great_perm {xs ys : List Ent} (h : ys.Perm xs) : great1 ys = great1 xs := by
  unfold great1
  exact List.Perm.foldl_eq' h (fun x _ y _ z => by omega) 1
theorem pts_perm (K : List UInt8) (per : Int) {xs ys : List Ent} (h : ys.Perm xs) : (ptsAll K per ys).Perm (ptsAll K per xs) := by
  unfold ptsAll
  rw [great_perm h]
  exact h.flatMap_right _
theorem pts_pos {K : List UInt8} {per : Int} {F : List Ent} {ys : List Pt} (hp : ys.Perm (ptsAll K per F)) : ∀ p ∈ ys, 0 ≤ p.1 := fun p h => by
  have := hp.mem_iff.1 h
  unfold ptsAll at this
  obtain ⟨x, _, hx⟩ := List.mem_flatMap.1 this
  unfold ptsE at hx
  obtain ⟨i, _, rfl⟩ := List.mem_map.1 hx
  exact (sumI_range _ _).1
set_option maxRecDepth 100000 in
set_option maxHeartbeats 4000000 in
theorem order_law (key : List UInt8) (xs : List Ent) (v : Value) (w : World) (hE : Env w) (hv : Ents w v xs) (hN : xs.length ≤ 140737488355328) (hT : ∀ x ∈ xs, x.1.length ≤ 9223372036854775807) :
    Calls Tryd.prog 4 #[.string (mk key), v] w fun e w' => e = .returned (.bool true) ∧ Below w.heap.size w w' := by
  obtain ⟨i0, hi, hz0, hz1, hz2⟩ := info_parts infoE
  have dA := awake_any w hE
  have dF := fun W h => few_any 5 (by omega) xs v W h hN hT
  have hFl := few_len 5 xs
  have hFm : ∀ x ∈ few12 5 xs, x.1.length ≤ 13 := fun x h => few_mem h
  generalize few12 5 xs = F at *
  have z0 : IntKind.i64.wrap ((F.length : Int) - 1) = (F.length : Int) - 1 := IntWalk.i64_in _ (by omega)
  go_enter Tryd.func4, Tryd.ntmps4
  go_wp2_with (first
    | (go_at_call 7; refine dA.mono ?_; rintro e w1 ⟨rfl, hb1⟩)
    | (go_at_call 8; refine (dF _ (hv.below hb1)).mono ?_; rintro e w2 ⟨u, rfl, hown, hb2⟩; obtain ⟨A, cp, rfl, _, _⟩ := row_ents hown))
  have hbt := bt hb1 hb2
  have hEF := row_ents hown
  have hg0 : w2.heap.size ≤ w2.heap.size := Nat.le_refl _
  have hbb : Below w2.heap.size w2 w2 := Below.refl _ _
  have ho0 : w2.ownsRow w2.heap.size 46 2 (.slice none 0 0) 0 ((F.reverse.take 0).flatMap entV) := World.ownsRow_nil _ _ _ _
  obtain ⟨A', c', hAe, hcA, hrF⟩ := hEF
  cases hAe
  clear hown dF dA hb1 hb2 z0
  go_loopw [6, 7] (fun uv iv wr => ∃ (k : Nat) (z : Int) (u : Value), u = uv ∧ k ≤ F.length ∧ iv = .int .i64 z ∧ z = (F.length : Int) - 1 - k ∧ wr.ownsRow w2.heap.size 46 2 u k ((F.reverse.take k).flatMap entV) ∧ Below w2.heap.size w2 wr) (fun _ iv _ => (intOf iv + 1).toNat)
  case atStart => exact ⟨0, _, _, rfl, Nat.zero_le _, rfl, by simp, ho0, hbb⟩
  case round =>
    obtain ⟨k, z, u, rfl, hk, rfl, hz, hown, hb⟩ := hrel
    by_cases c1 : k < F.length
    · obtain ⟨q, rfl⟩ := Int.eq_ofNat_of_zero_le (show 0 ≤ z by omega)
      have hq : q = F.length - 1 - k := by omega
      have hqF : q < F.length := by omega
      obtain ⟨b, o, rfl, hbl, hxF⟩ := hrF (by omega)
      obtain ⟨h1, h2⟩ := hxF q F[q] (List.getElem?_eq_getElem hqF)
      have hc0 := (hb.cell (p := ⟨b, o + q * 2, none⟩) hbl).trans h1
      have hc1 := (hb.cell (p := ⟨b, o + q * 2 + 1, none⟩) hbl).trans h2
      have hnx := Lib.hid (show (F.reverse.take (k + 1)).flatMap entV = (F.reverse.take k).flatMap entV ++ [.string (mk F[q].1), .int .i64 F[q].2] by
        rw [rev_take F k c1, List.flatMap_append]
        subst hq
        rfl)
      generalize F[q] = y at *
      have d1 : (0 : Int) ≤ (q : Int) := by omega
      have d2 : (q : Int) < (F.length : Int) := by omega
      have d3 : IntKind.i64.wrap ((q : Int) - 1) = (q : Int) - 1 := IntWalk.i64_in _ (by omega)
      have hbk := heap_alloc_new wr (Obj.cells #[.string (mk y.1), .int .i64 y.2] 46)
      have hgw := hb.size
      clear h1 h2 hxF
      have hz' := Lib.hid hz
      have hq' := Lib.hid hq
      clear hz hq
      go_wp2_with (at_builtin; go_must (refine wpList_append_own _ rfl _ _ 22 rfl w2.heap.size 46 i0 _ 2 24 Tryd.underlying22 hi hz0 hz1 hz2 rfl (by decide) _ _ _ rfl (hown.alloc _) ⟨_, 0, none⟩ 1 1 [.string (mk y.1), .int .i64 y.2] rfl rfl (World.news_of_block hbk) (by simp [Value.oneCell']) (by unfold maxLen; omega) (by omega) (by simp; omega) ?_; intro v' w5 hown' hgrow _))
      go_roundw
      case rel => exact ⟨k + 1, _, _, rfl, by omega, by first | rfl | go_num, by have := hz'.out; omega, by rw [hnx.out]; exact hown', grow_low (hb.alloc hgw _) (by simp; omega) hgrow (fun b e => (hown.lt b e).1)⟩
      case measure => first | (simp [intOf]; done) | (simp [intOf]; omega)
    · have hkn : k = F.length := by omega
      have hrl : (F.reverse.take k) = F.reverse := List.take_of_length_le (by simp; omega)
      rw [hrl] at hown
      have hown2 : wr.ownsRow w2.heap.size 46 2 u F.reverse.length (F.reverse.flatMap entV) := by rw [List.length_reverse, ← hkn]; exact hown
      have hE1 : Ents wr (.slice A F.length cp) F := Ents.below ⟨A, cp, rfl, hcA, hrF⟩ hb
      have hE2 := row_ents hown2
      obtain ⟨A2, c2, rfl⟩ := row_slice hown2
      have hbt2 := bt hbt hb
      have hzn : z < 0 := by omega
      have hp : F.reverse.Perm F := List.reverse_perm F
      have hFm2 : ∀ x ∈ F.reverse, x.1.length ≤ 13 := fun x h => hFm x (List.mem_reverse.1 h)
      have hFl2 : F.reverse.length ≤ 5 := by rw [List.length_reverse]; exact hFl
      have dR := fun W h => refCheck_any F (.slice A F.length cp) W h (by omega)
      have hKl := keyL_len key
      have dK := fun W => keyOf_any key W
      generalize keyL key = K at *
      have dO1 := fun W h => own_any F (.slice A F.length cp) W h (by omega)
      have dO2 := fun W h => own_any F.reverse (.slice A2 F.reverse.length c2) W h (by omega)
      clear hz hown hown2 hrl hrF hcA hkn hv hbt hb hbb hg0 ho0
      generalize hFR : F.reverse = R at *
      clear hFR
      have hE2x : Env wr := hE.below hbt2
      rcases Classical.em (OkR F) with hok | hok
      case inr =>
        have hok2 : ¬ OkR R := fun h => hok (okR_perm hp.symm h)
        rw [errR_1 hok] at dR
        have dB1 := fun v' W h => build_no K hKl F hok 8 v' W h (by omega) (fun x hx => by have := hFm x hx; omega)
        have dB2 := fun v' W h => build_no K hKl R hok2 8 v' W h (by omega) (fun x hx => by have := hFm2 x hx; omega)
        go_wp2_with (go_at_call 9; refine (dK _).mono ?_; rintro e w3 ⟨rfl, hb3⟩)
        have hE13 := hE1.below hb3
        have hE23 := hE2.below hb3
        have ht3 := bt hbt2 hb3
        go_wp2_with (go_at_call 11; refine (dO1 _ hE13).mono ?_; rintro e w4 ⟨u4, rfl, hown4, hb4⟩; obtain ⟨A4, c4, rfl, _, _⟩ := row_ents hown4)
        go_wp2_with (go_at_call 10; refine (dB1 _ _ (row_ents hown4)).mono ?_; rintro e w5 ⟨hb5, rfl⟩)
        have hE15 := (hE13.below hb4).below hb5
        have hE25 := (hE23.below hb4).below hb5
        have ht5 := bt (bt ht3 hb4) hb5
        go_wp2_with (go_at_call 9; refine (dK _).mono ?_; rintro e w6 ⟨rfl, hb6⟩)
        have hE26 := hE25.below hb6
        go_wp2_with (go_at_call 11; refine (dO2 _ hE26).mono ?_; rintro e w7 ⟨u7, rfl, hown7, hb7⟩; obtain ⟨A7, c7, rfl, _, _⟩ := row_ents hown7)
        go_wp2_with (go_at_call 10; refine (dB2 _ _ (row_ents hown7)).mono ?_; rintro e w8 ⟨hb8, rfl⟩)
        have hE18 := ((hE15.below hb6).below hb7).below hb8
        have ht8 := bt (bt (bt ht5 hb6) hb7) hb8
        go_wp2_with (go_at_call 12; with_reducible refine (dR _ hE18).mono ?_; rintro e w9 ⟨rfl, hb9⟩)
        go_ret
        exact ⟨rfl, bt ht8 hb9⟩
      have hok2 : OkR R := okR_perm hp hok
      rw [errR_0 hok] at dR
      have dB1 := fun v' W h hw => build_ok K hKl F hok 8 v' W h (fun x hx => by have := hFm x hx; omega) hw
      have dB2 := fun v' W h hw => build_ok K hKl R hok2 8 v' W h (fun x hx => by have := hFm2 x hx; omega) hw
      go_wp2_with (go_at_call 9; refine (dK _).mono ?_; rintro e w3 ⟨rfl, hb3⟩)
      have hE13 := hE1.below hb3
      have hE23 := hE2.below hb3
      have ht3 := bt hbt2 hb3
      go_wp2_with (go_at_call 11; refine (dO1 _ hE13).mono ?_; rintro e w4 ⟨u4, rfl, hown4, hb4⟩; obtain ⟨A4, c4, rfl, _, _⟩ := row_ents hown4)
      have hw4 : Env w4 := hE.below (bt ht3 hb4)
      go_wp2_with (go_at_call 10; refine (dB1 _ _ (row_ents hown4) hw4).mono ?_; rintro e w5 ⟨hb5, rb1, ys, rfl, hp1, hs1, hR15, htb1⟩)
      have hE15 := (hE13.below hb4).below hb5
      have hE25 := (hE23.below hb4).below hb5
      have ht5 := bt (bt ht3 hb4) hb5
      go_wp2_with (go_at_call 9; refine (dK _).mono ?_; rintro e w6 ⟨rfl, hb6⟩)
      have hE26 := hE25.below hb6
      go_wp2_with (go_at_call 11; refine (dO2 _ hE26).mono ?_; rintro e w7 ⟨u7, rfl, hown7, hb7⟩; obtain ⟨A7, c7, rfl, _, _⟩ := row_ents hown7)
      have hw7 : Env w7 := hE.below (bt (bt ht5 hb6) hb7)
      go_wp2_with (go_at_call 10; refine (dB2 _ _ (row_ents hown7) hw7).mono ?_; rintro e w8 ⟨hb8, rb2, ys2, rfl, hp2, hs2, hR28, htb2⟩)
      have hys : ys2 = ys := srtP_unique (hp2.trans ((pts_perm K 8 hp).trans hp1.symm)) hs2 hs1
      subst hys
      have hE18 := ((hE15.below hb6).below hb7).below hb8
      have hR18 := ((hR15.below hb6).below hb7).below hb8
      have ht8 := bt (bt (bt ht5 hb6) hb7) hb8
      have hyl : ys2.length ≤ 262144 := by
        rw [hp1.length_eq]
        exact pts_len K _ F hok
      have hpos := Lib.hid (pts_pos hp1)
      clear hE13 hE23 ht3 hown4 hb3 hb4 hb5 hR15 hE15 hE25 ht5 hb6 hE26 hown7 hb7 hb8 hp1 hp2 hs1 dB1 dB2 dO1 dO2 dK htb1 htb2 hw4 hw7 hE2x
      go_wp2_with (go_at_call 12; with_reducible refine (dR _ hE18).mono ?_; rintro e w9 ⟨rfl, hb9⟩)
      have hR19 := hR18.below hb9
      have hR29 := hR28.below hb9
      have ht9 := bt ht8 hb9
      have hb90 : Below w9.heap.size w9 w9 := Below.refl _ _
      clear hE18 hR18 hR28 ht8 hb9 dR hE1 hE2
      have dL1 := fun W h => len_any ys2 rb1 W h
      have dL2 := fun W h => len_any ys2 rb2 W h
      go_wp2_with (go_at_call 14; (with_reducible refine (dL1 _ hR19).mono ?_); rintro e w10 ⟨rfl, hw10⟩; rw [hw10]; clear hw10 w10)
      go_loopw [75] (fun iv wr => ∃ k : Nat, k ≤ ys2.length ∧ iv = .int .i64 k ∧ Below w9.heap.size w9 wr) (fun iv _ => ys2.length - (intOf iv).toNat)
      case atStart => exact ⟨0, by omega, rfl, hb90⟩
      case round =>
        obtain ⟨k, hk, rfl, hb⟩ := hrel
        by_cases c5 : k < ys2.length
        · have c5' : (k : Int) < (ys2.length : Int) := by omega
          obtain ⟨p, hp⟩ : ∃ p, ys2[k]? = some p := ⟨_, List.getElem?_eq_getElem c5⟩
          have hat : ptAt ys2 (k : Int) = p := by unfold ptAt; rw [if_neg (by omega), Int.toNat_natCast, List.getD_eq_getElem?_getD, hp]; rfl
          have hle : ¬ p.1 < (ptAt ys2 ((k : Int) - 1)).1 := by
            by_cases h0 : k = 0
            · subst h0
              have : ptAt ys2 (((0 : Nat) : Int) - 1) = (0, []) := by unfold ptAt; rw [if_pos (by omega)]
              rw [this]
              have := hpos.out p (List.mem_of_getElem? hp)
              show ¬ p.1 < 0
              omega
            · obtain ⟨q, hq⟩ : ∃ q, ys2[k - 1]? = some q := ⟨_, List.getElem?_eq_getElem (by omega)⟩
              have : ptAt ys2 ((k : Int) - 1) = q := by
                unfold ptAt
                rw [if_neg (by omega), show ((k : Int) - 1).toNat = k - 1 by omega, List.getD_eq_getElem?_getD, hq]; rfl
              rw [this]
              have := srt_at hs2 (show k - 1 ≤ k by omega) hq hp
              omega
          have dT1 := point_any ys2 rb1 (k : Int) wr (hR19.below hb) (by omega)
          have dT2 := fun W h => point_any ys2 rb2 (k : Int) W h (by omega)
          have dT3 := fun W h => point_any ys2 rb1 ((k : Int) - 1) W h (by omega)
          rw [hat] at dT1 dT2
          have htest : (!(mk p.2).toList == (mk p.2).toList) = false := by rw [mk_eq, decide_eq_true rfl]; rfl
          have x0 : (0 : Int) ≤ (k : Int) := by omega
          clear hat hp
          generalize ptAt ys2 ((k : Int) - 1) = o at *
          go_wp2_with (go_at_call 15; (with_reducible refine dT1.mono ?_); rintro e w10 ⟨rfl, hb10⟩)
          have hb10' := bt hb hb10
          go_wp2_with (go_at_call 15; (with_reducible refine (dT2 _ (hR29.below hb10')).mono ?_); rintro e w11 ⟨rfl, hb11⟩)
          have hb11' := bt hb10' hb11
          go_wp2_with (go_at_call 15; (with_reducible refine (dT3 _ (hR19.below hb11')).mono ?_); rintro e w12 ⟨rfl, hb12⟩)
          have hb12' := bt hb11' hb12
          go_roundw
          case rel => exact ⟨k + 1, by omega, by go_num, hb12'⟩
          case measure => simp [intOf]; omega
        · have hk5 : k = ys2.length := by omega
          subst hk5
          go_wp2_with (first
            | (go_at_call 14; (with_reducible refine (dL1 _ (hR19.below hb)).mono ?_); rintro e w10 ⟨rfl, hw10⟩; rw [hw10]; clear hw10 w10)
            | (go_at_call 14; (with_reducible refine (dL2 _ (hR29.below hb)).mono ?_); rintro e w10 ⟨rfl, hw10⟩; rw [hw10]; clear hw10 w10))
          go_ret
          exact ⟨rfl, bt ht9 hb⟩
end Go.Proofs.YtmgalgieiaolbaaDoor.Ri
