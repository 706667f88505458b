/- The law of picks (printed by genZ.py). -/
import Derived.Test.YtclngmjfhlindaaMaW
namespace Go.Proofs.Ytclngmjfhlindaa.Ma
open Go.RowKit Go.Proofs.Ytclngmjfhlindaa.Sip
set_option linter.unusedVariables false
def Ints (w : World) (v : Value) (zs : List Int) : Prop :=
  ∃ A c, v = .slice A zs.length c ∧ (0 < zs.length → ∃ b o, A = some ⟨b, o, none⟩ ∧ b < w.heap.size ∧ ∀ j x, zs[j]? = some x → w.cell? ⟨b, o + j, none⟩ = some (.int .i64 x))
theorem row_ints {w : World} {base : Nat} {nv : Value} {zs : List Int} (h : w.ownsRow base 3 1 nv zs.length (zs.map (fun x => Value.int .i64 x))) : Ints w nv zs := by
  have h' := h
  rcases h.2 with ⟨rfl, h0⟩ | ⟨g, cap, cur, rfl, hb, hg, h1, h2, h3, h4⟩
  · exact ⟨none, 0, by rw [h0], fun hp => by omega⟩
  · refine ⟨_, cap, rfl, fun _ => ⟨g, 0, rfl, (Array.getElem?_eq_some_iff.1 hg).1, fun j x hj => ?_⟩⟩
    have hj2 : j < zs.length := (List.getElem?_eq_some_iff.1 hj).1
    rw [Nat.zero_add, h'.cellAt j (by omega), List.getElem?_map, hj]; rfl
theorem few_ne {n : Nat} {xs : List Ent} {x : Ent} (h : x ∈ few12 n xs) : x.1 ≠ [] := by
  unfold few12 at h
  obtain ⟨y, _, rfl⟩ := List.mem_map.1 h
  exact List.cons_ne_nil _ _
set_option maxRecDepth 100000 in
set_option maxHeartbeats 4000000 in
theorem picks_law (key : List UInt8) (xs : List Ent) (v : Value) (x : Nat) (hx : x < 18446744073709551616) (w : World) (hv : Ents w v xs) (hN : xs.length ≤ 140737488355328) (hT : ∀ x ∈ xs, x.1.length ≤ 9223372036854775807) :
    Calls Try.prog 6 #[.string (mk key), v, .int .u64 x] w fun e w' => e = .returned (.bool true) ∧ Below w.heap.size w w' := by
  have dA := awake_any w
  have dF := fun W h => few_any 4 (by omega) xs v W h hN hT
  have hFl := few_len 4 xs
  have hFm : ∀ x ∈ few12 4 xs, x.1.length ≤ 13 := fun x h => few_mem h
  have hFne : ∀ x ∈ few12 4 xs, x.1 ≠ [] := fun x h => few_ne h
  generalize few12 4 xs = F at *
  have hKl := keyL_len key
  have dK0 := fun W => keyOf_any key W
  generalize keyL key = K at *
  obtain ⟨k0, k1, k2, k3, k4, k5, k6, k7, k8, k9, k10, k11, k12, k13, k14, k15, rfl⟩ := list16 hKl
  have dK : ∀ W, Calls Try.prog 9 #[.string (mk key)] W fun e w' => e = .returned (.agg #[.int .u8 (k0.toNat : Int), .int .u8 (k1.toNat : Int), .int .u8 (k2.toNat : Int), .int .u8 (k3.toNat : Int), .int .u8 (k4.toNat : Int), .int .u8 (k5.toNat : Int), .int .u8 (k6.toNat : Int), .int .u8 (k7.toNat : Int), .int .u8 (k8.toNat : Int), .int .u8 (k9.toNat : Int), .int .u8 (k10.toNat : Int), .int .u8 (k11.toNat : Int), .int .u8 (k12.toNat : Int), .int .u8 (k13.toNat : Int), .int .u8 (k14.toNat : Int), .int .u8 (k15.toNat : Int)]) ∧ Below W.heap.size W w' := fun W => dK0 W
  clear dK0
  go_enter Try.func6, Try.ntmps6
  go_wp2_with (first
    | (go_at_call 7; refine dA.mono ?_; rintro e w1 ⟨rfl, hb1⟩)
    | (go_at_call 8; refine (dF _ (hv.below hb1)).mono ?_; rintro e w2 ⟨u, rfl, hown, hb2⟩; obtain ⟨A, cp, rfl, _, _⟩ := row_ents hown)
    | (go_at_call 9; refine (dK _).mono ?_; rintro e w3 ⟨rfl, hb3⟩))
  generalize hMM : (401 : Int) = mm at *
  have hbt := bt (bt hb1 hb2) hb3
  have hE0 := (row_ents hown).below hb3
  have hky := bytesRange (show BytesAt (w3.alloc (.cells #[.int .u8 (k0.toNat : Int), .int .u8 (k1.toNat : Int), .int .u8 (k2.toNat : Int), .int .u8 (k3.toNat : Int), .int .u8 (k4.toNat : Int), .int .u8 (k5.toNat : Int), .int .u8 (k6.toNat : Int), .int .u8 (k7.toNat : Int), .int .u8 (k8.toNat : Int), .int .u8 (k9.toNat : Int), .int .u8 (k10.toNat : Int), .int .u8 (k11.toNat : Int), .int .u8 (k12.toNat : Int), .int .u8 (k13.toNat : Int), .int .u8 (k14.toNat : Int), .int .u8 (k15.toNat : Int)] 26)) w3.heap.size [k0, k1, k2, k3, k4, k5, k6, k7, k8, k9, k10, k11, k12, k13, k14, k15] 26 from blkNew _ _)
  have hb4 := (Below.refl _ w3).alloc (Nat.le_refl _) (.cells #[.int .u8 (k0.toNat : Int), .int .u8 (k1.toNat : Int), .int .u8 (k2.toNat : Int), .int .u8 (k3.toNat : Int), .int .u8 (k4.toNat : Int), .int .u8 (k5.toNat : Int), .int .u8 (k6.toNat : Int), .int .u8 (k7.toNat : Int), .int .u8 (k8.toNat : Int), .int .u8 (k9.toNat : Int), .int .u8 (k10.toNat : Int), .int .u8 (k11.toNat : Int), .int .u8 (k12.toNat : Int), .int .u8 (k13.toNat : Int), .int .u8 (k14.toNat : Int), .int .u8 (k15.toNat : Int)] 26)
  have hE4 := hE0.below hb4
  have hbt4 := bt hbt hb4
  have hz4 : w3.heap.size < (w3.alloc (.cells #[.int .u8 (k0.toNat : Int), .int .u8 (k1.toNat : Int), .int .u8 (k2.toNat : Int), .int .u8 (k3.toNat : Int), .int .u8 (k4.toNat : Int), .int .u8 (k5.toNat : Int), .int .u8 (k6.toNat : Int), .int .u8 (k7.toNat : Int), .int .u8 (k8.toNat : Int), .int .u8 (k9.toNat : Int), .int .u8 (k10.toNat : Int), .int .u8 (k11.toNat : Int), .int .u8 (k12.toNat : Int), .int .u8 (k13.toNat : Int), .int .u8 (k14.toNat : Int), .int .u8 (k15.toNat : Int)] 26)).heap.size := by simp
  generalize w3.alloc (.cells #[.int .u8 (k0.toNat : Int), .int .u8 (k1.toNat : Int), .int .u8 (k2.toNat : Int), .int .u8 (k3.toNat : Int), .int .u8 (k4.toNat : Int), .int .u8 (k5.toNat : Int), .int .u8 (k6.toNat : Int), .int .u8 (k7.toNat : Int), .int .u8 (k8.toNat : Int), .int .u8 (k9.toNat : Int), .int .u8 (k10.toNat : Int), .int .u8 (k11.toNat : Int), .int .u8 (k12.toNat : Int), .int .u8 (k13.toNat : Int), .int .u8 (k14.toNat : Int), .int .u8 (k15.toNat : Int)] 26) = w4 at *
  generalize ([k0, k1, k2, k3, k4, k5, k6, k7, k8, k9, k10, k11, k12, k13, k14, k15] : List UInt8) = K at *
  generalize w3.heap.size = q at *
  have hcsz : (Try.prog.info? 26).map (·.size) = some (keyV K).length := by
    rw [show (keyV K).length = 16 by unfold keyV; rw [List.length_map, hKl]]; kernel_rfl
  have hcu := Try.underlying26
  have hSS : ∀ w', Kps w4.heap.size w4 w' → (w'.rangeAt q 0 (keyV K) ∧ Kps w4.heap.size w4 w') := fun w' hk => ⟨hk.range hz4 hky, hk⟩
  have hK0 : Kps w4.heap.size w4 w4.drew := ⟨(Below.refl _ w4).drew, Nat.le_refl _⟩
  have dO : ∀ W, Kps w4.heap.size w4 W → Calls Try.prog 11 #[.slice A F.length cp] W fun e w' => ∃ (A5 : Option Addr) (c5 : Nat), e = .returned (.slice A5 F.length c5) ∧ Ents w' (.slice A5 F.length c5) F ∧ Below W.heap.size W w' := fun W h => (own_any F (.slice A F.length cp) W (hE4.below h.1) (by omega)).mono (by
    rintro e w' ⟨u, rfl, ho, hb⟩
    have hE := row_ents ho
    obtain ⟨A5, c5, rfl⟩ := row_slice ho
    exact ⟨A5, c5, rfl, hE, hb⟩)
  clear hown hb1 hb2 hb3 hb4 dA dF dK hE0 hbt
  have dR := fun W h => refCheck_any F mm (.slice A F.length cp) W h (by omega)
  rcases Classical.em (OkM F mm) with hok | hok
  case inr =>
    have he : errM F mm = 1 := errM_1 hok
    rw [he] at dR
    have dB : ∀ (v' : Value) (W : World), Ents W v' F → Calls Try.prog 10 #[.agg (keyV K).toArray, v', .int .i64 mm] W fun e w' => Below W.heap.size W w' ∧ e = .returned (.tuple #[.pointer none, .int .i64 1]) := fun v' W h => build_no K hKl F mm hok v' W h (by omega) (fun x hx => by have := hFm x hx; omega)
    go_region_held3 (fun w' => w'.rangeAt q 0 (keyV K) ∧ Kps w4.heap.size w4 w')
      (first
        | exact hSS _ hK0
        | (go_split_ands; exact hSS _ (by assumption))
        | (go_split_ands; refine hSS _ (Kps.call ?_ hb5); assumption)
        | (go_split_ands; refine hSS _ (Kps.call ?_ hb6); assumption))
      (first
        | (go_at_call 11; refine (dO _ (by go_split_ands; assumption)).mono ?_; rintro e w5 ⟨A5, c5, rfl, hE5, hb5⟩)
        | (go_at_call 10; refine (dB _ _ hE5).mono ?_; rintro e w6 ⟨hb6, rfl⟩))
    have hk6 : Kps w4.heap.size w4 w6 := by go_split_ands; assumption
    have ht6 := hbt4.trans (hk6.1.mono hbt4.size)
    go_wp2_with (go_at_call 12; refine (dR _ (hE4.below hk6.1)).mono ?_; rintro e w7 ⟨rfl, hb7⟩)
    go_ret
    exact ⟨rfl, bt ht6 hb7⟩
  obtain ⟨M, rfl⟩ := Int.eq_ofNat_of_zero_le (show 0 ≤ mm by have := hok.1.1; omega)
  have he : errM F (M : Int) = 0 := errM_0 hok
  rw [he] at dR
  have hM2 := hok.1.1
  have hM3 := hok.1.2.1
  have dB : ∀ (v' : Value) (W : World), Ents W v' F → Calls Try.prog 10 #[.agg (keyV K).toArray, v', .int .i64 (M : Int)] W fun e w' => Below W.heap.size W w' ∧ ∃ (ys : List Ent) (tb : Nat), ys.Perm F ∧ Srt ys ∧ e = .returned (.tuple #[.pointer (some ⟨tb, 0, none⟩), .int .i64 0]) ∧ W.heap.size ≤ tb ∧ Tab w' tb (ys.map Prod.fst) (plc K ys M) ∧ OkM ys (M : Int) := fun v' W h => build_ok K hKl F M hok v' W h (fun x hx => by have := hFm x hx; omega)
  go_region_held3 (fun w' => w'.rangeAt q 0 (keyV K) ∧ Kps w4.heap.size w4 w')
    (first
      | exact hSS _ hK0
      | (go_split_ands; exact hSS _ (by assumption))
      | (go_split_ands; refine hSS _ (Kps.call ?_ hb5); assumption)
      | (go_split_ands; refine hSS _ (Kps.call ?_ hb6); assumption))
    (first
      | (go_at_call 11; refine (dO _ (by go_split_ands; assumption)).mono ?_; rintro e w5 ⟨A5, c5, rfl, hE5, hb5⟩)
      | (go_at_call 10; refine (dB _ _ hE5).mono ?_; rintro e w6 ⟨hb6, ys, tb, hp, hs, rfl, htb, hT6, hok6⟩))
  have hk6 : Kps w4.heap.size w4 w6 := by go_split_ands; assumption
  have ht6 := hbt4.trans (hk6.1.mono hbt4.size)
  have hcv : ∀ W, Kps w4.heap.size w4 W → (convert 38 9 (.slice (some ⟨q, 0, none⟩) 16 16)).run Try.prog W = .ok (.string (mk K)) W := fun W h => by
    have hr := (hSS W h).1
    have h1 := run_convert_bytes_back (P := Try.prog) W 38 9 5 ⟨q, 0, none⟩ 16 K Try.underlying38 Try.underlying5 Try.underlying9 (fun j hj => by
      rw [Addr.add_mid, hr j (.int .u8 (K[j].toNat : Int)) (by unfold keyV; rw [List.getElem?_map, List.getElem?_eq_getElem hj]; rfl)])
    rw [hKl] at h1
    exact h1
  have hvals := plc_vals (K := K) hok6
  have hPl := plc_len (K := K) hok6
  have hys : insAll F = ys := srt_unique (xs := F) hok.2.2.2.2 (insAll_perm F) hp (insAll_srt F) hs
  have dRB := fun W h => refBuild_any K hKl F M hok (.slice A F.length cp) W h (fun x hx => by have := hFm x hx; omega)
  rw [hys] at dRB
  have hnl : ys.length ≤ 4 := by rw [hp.length_eq]; exact hFl
  have hM9 : M ≤ 1000 := by omega
  have hnd : (ys.map Prod.fst).Nodup := (hp.map Prod.fst).nodup_iff.2 hok.2.2.2.2
  have hne : [] ∉ ys.map Prod.fst := fun h => by
    obtain ⟨e, he1, he2⟩ := List.mem_map.1 h
    exact hFne e (hp.mem_iff.1 he1) he2
  have dSo := fun W h => refSorted_any F (.slice A F.length cp) W h (by omega) (fun x hx => by have := hFm x hx; omega)
  rw [hys] at dSo
  have hnmp : ∀ x ∈ ys.map Prod.fst, x.length ≤ 13 := fun x h => by
    obtain ⟨e, he1, he2⟩ := List.mem_map.1 h
    have := hFm e (hp.mem_iff.1 he1); rw [← he2]; exact this
  clear hys hp hs hok6 hok hFm hFne hFl
  generalize plc K ys M = P at *
  go_wp2_with (go_at_call 12; refine (dR _ (hE4.below hk6.1)).mono ?_; rintro e w7 ⟨rfl, hb7⟩; have hk7 := hk6.call hb7; have hT7 := hT6.below hb7; have hconv := hcv w7 hk7)
  have ht7 := ht6.trans (hb7.mono ht6.size)
  go_wp2_with (go_at_call 14; refine (dRB _ (hE4.below hk7.1)).mono ?_; rintro e w9 ⟨u9, rfl, ho9, hb9⟩; obtain ⟨A9, c9, rfl⟩ := row_slice ho9)
  have hE9 := (hE4.below hk7.1).below hb9
  have hT9 := hT7.below hb9
  have ht9 := ht7.trans (hb9.mono ht7.size)
  have hS9 := row_strs ho9
  clear hconv hk7 hk6 hT7 hT6 ho9 hb9 hb7 hb6 hb5 ht6 ht7 dRB dR dB dO hSS hcv hE5 hE4 hbt4 hky he htb
  go_wp2_with (go_at_call 20; refine (dSo _ hE9).mono ?_; rintro e w10 ⟨u10, rfl, ho10, hb10⟩; obtain ⟨A10, c10, rfl⟩ := row_slice ho10)
  have hT10 := hT9.below hb10
  have ht10 := ht9.trans (hb10.mono ht9.size)
  have hS10 := strs_below hS9 hb10
  obtain ⟨A10', c10', hAe, hc10, hr10⟩ := row_ents ho10
  cases hAe
  obtain ⟨i1, hi1, hy0, hy1, hy2⟩ := info_parts infoStr
  have hbb : Below w10.heap.size w10 w10 := Below.refl _ _
  have ho0 : w10.ownsRow w10.heap.size 9 1 (.slice none 0 0) 0 (((ys.take 0).map Prod.fst).map (fun x => Value.string (mk x))) := World.ownsRow_nil _ _ _ _
  clear hT9 ht9 hS9 hE9 ho10 hb10 dSo
  go_loopw [12, 49] (fun uv iv wr => ∃ (k : Nat) (u : Value), u = uv ∧ k ≤ ys.length ∧ iv = .int .i64 k ∧ wr.ownsRow w10.heap.size 9 1 u k (((ys.take k).map Prod.fst).map (fun x => Value.string (mk x))) ∧ Below w10.heap.size w10 wr) (fun _ iv _ => ys.length - (intOf iv).toNat)
  case atStart => exact ⟨0, _, rfl, Nat.zero_le _, rfl, ho0, hbb⟩
  case round =>
    obtain ⟨k, u, rfl, hk, rfl, hown, hb⟩ := hrel
    by_cases c1 : k < ys.length
    · obtain ⟨b, o, rfl, hlt, hx⟩ := hr10 (by omega)
      have hx0 := hx k ys[k] (by simp [c1])
      have hc0 := (hb.cell (p := ⟨b, o + k * 2, none⟩) hlt).trans hx0.1
      have hc1 := (hb.cell (p := ⟨b, o + k * 2 + 1, none⟩) hlt).trans hx0.2
      have hnx := Lib.hid (show ((ys.take (k + 1)).map Prod.fst).map (fun x => Value.string (mk x)) = ((ys.take k).map Prod.fst).map (fun x => Value.string (mk x)) ++ [.string (mk ys[k].1)] by rw [List.take_succ_eq_append_getElem c1, List.map_append, List.map_append]; rfl)
      have hgw := hb.size
      generalize ys[k] = y at *
      clear hx0 hx
      have hbk := heap_alloc_new (wr.alloc (Obj.cells #[.string (mk y.1), .int .i64 y.2] 42)) (Obj.cells #[.string (mk y.1)] 9)
      rw [World.size_alloc] at hbk
      have hn0 := (new_two wr (.string (mk y.1)) (.int .i64 y.2) 42).1
      go_wp2_with (at_builtin; go_must (refine wpList_append_own _ rfl _ _ 36 rfl w10.heap.size 9 i1 _ 1 16 Try.underlying36 hi1 hy0 hy1 hy2 rfl (by decide) _ _ _ rfl ((hown.alloc _).alloc _) ⟨_, 0, none⟩ 1 1 [.string (mk y.1)] rfl rfl (World.news_of_block hbk) (by simp [Value.oneCell']) (by unfold maxLen; omega) (by omega) (by simp; omega) ?_; intro v' w5 hown' hgrow _))
      go_roundw
      case rel => exact ⟨k + 1, _, rfl, by omega, by go_num, by rw [hnx.out]; exact hown', grow_low ((hb.alloc hgw _).alloc (by simp; omega) _) (by simp; omega) hgrow (fun b e => (hown.lt b e).1)⟩
      case measure => simp [intOf]; omega
    · have hk5 : k = ys.length := by omega
      subst hk5
      rw [List.take_of_length_le (Nat.le_refl _)] at hown
      have hown2 : OwnStrs wr w10.heap.size u (ys.map Prod.fst) := by unfold OwnStrs; rw [List.length_map]; exact hown
      have hNS := own_strs hown2
      obtain ⟨A11, c11, rfl⟩ := row_slice hown2
      have hT11 := hT10.below hb
      have hS11 := strs_below hS10 hb
      have ht11 := ht10.trans (hb.mono ht10.size)
      have hlen : (ys.map Prod.fst).length = ys.length := by rw [List.length_map]
      have hnl2 : (ys.map Prod.fst).length ≤ 4 := by rw [hlen]; exact hnl
      generalize hnames : ys.map Prod.fst = names at *
      clear hown hown2 hr10 hc10 hT10 hS10 ht10 hb hbb ho0 hlen hnames hk c1
      have dBe := fun W => refBelow_any x hx (M : Int) (by omega) W
      obtain ⟨a, haE, haM⟩ := belowN_lt x hx M (by omega)
      have dPk := fun W h => pick_any names P hvals tb x hx W h (by omega) (by omega)
      rw [hPl, haE] at dPk
      rw [haE] at dBe
      have hatE : atS names P (a : Int) = nameAt names P[a] := by unfold atS; rw [if_neg (by omega), Int.toNat_natCast, List.getElem?_eq_getElem (by omega)]
      rw [hatE] at dPk
      have dWk := fun W h => walk_any names P hvals tb x hx W h (by omega) (by omega) (by omega)
      rw [hPl, haE, Int.toNat_natCast, walk_same hnd hne hvals] at dWk
      have dSh := fun W h => shares_any names P hvals tb W h (by omega) (by omega)
      have dNm := fun W h => names_any names P tb W h (by omega)
      have hpa : (P.map (nameAt names))[a]? = some (nameAt names P[a]) := by rw [List.getElem?_map, List.getElem?_eq_getElem (by omega)]; rfl
      have hcs := Lib.hid (fun i hi => count_same hnd hne hvals i hi)
      have hpl2 : (P.map (nameAt names)).length = M := by rw [List.length_map, hPl]
      have hwl : (walkR names [] (roundL (P.map (nameAt names)) a)).length ≤ 2000 := by
        have := walkR_len names (roundL (P.map (nameAt names)) a) []
        rw [round_len _ _ (by omega), hpl2] at this
        simp at this; omega
      have dRW := fun vp vn W hp hn => refWalk_any (P.map (nameAt names)) names vp vn a W hp hn (by omega) (by omega) (by omega)
      generalize nameAt names P[a] = nma at *
      generalize hPN : P.map (nameAt names) = PN at *
      clear haE hatE
      generalize hWR : walkR names [] (roundL PN a) = WR at *
      have dSn := fun va vb W ha hb => same_any names names va vb W ha hb (by omega)
      have dSw := fun va vb W ha hb => same_any WR WR va vb W ha hb (by omega)
      rw [decide_eq_true rfl] at dSn dSw
      go_wp2_with (first
        | (go_at_call 21; refine (dBe _).mono ?_; rintro e w12 ⟨rfl, rfl⟩)
        | (go_at_call 16; refine (dSh _ hT11).mono ?_; rintro e w12 ⟨v12, rfl, ho12, hb12⟩; obtain ⟨A12, c12, rfl⟩ := row_slice ho12))
      have hT12 := hT11.below hb12
      have hN12 := strs_below hNS hb12
      have hS12 := strs_below hS11 hb12
      have ht12 := ht11.trans (hb12.mono ht11.size)
      have hI12 := row_ints (zs := shareS names.length P) (by rw [share_len]; exact ho12)
      have hSR := hS12
      have hNR := hN12
      obtain ⟨AN, cN, hAe, hcN, hrN⟩ := hN12
      cases hAe
      obtain ⟨AP, cP, hAe, hcP, hrP⟩ := hS12
      cases hAe
      obtain ⟨AI, cI, hAe, hrI⟩ := hI12
      rw [share_len] at hAe hrI
      cases hAe
      clear hT11 hNS hS11 ht11 ho12 hb12 dBe dSh
      rw [hpl2] at hrP hSR
      have hpl5 := Lib.hid hpl2
      clear hpl2
      go_loop [70] (fun iv => ∃ i : Nat, i ≤ names.length ∧ iv = .int .i64 i) (fun iv => names.length - (intOf iv).toNat)
      case atStart => exact ⟨0, Nat.zero_le _, rfl⟩
      case round =>
        obtain ⟨i, hi2, rfl⟩ := hrel
        by_cases c2 : i < names.length
        · obtain ⟨bN, oN, rfl, hlN, hxN⟩ := hrN (by omega)
          obtain ⟨bI, oI, rfl, hlI, hxI⟩ := hrI (by omega)
          have hcN1 := hxN i names[i] (List.getElem?_eq_getElem c2)
          have hcI1 := hxI i _ (share_get _ _ _ c2)
          have hcc := hcs.out i c2
          rw [← hcc] at hcI1
          have hcl : PN.countP (fun n => decide (n = names[i])) ≤ 1000 := by
            have := List.countP_le_length (p := fun n => decide (n = names[i])) (l := PN)
            have e := hpl5.out
            omega
          have c2' : (i : Int) < (names.length : Int) := by omega
          clear hxN hxI hcc
          generalize names[i] = ni at *
          go_wp2
          go_loop [19, 77] (fun cv qv => ∃ q : Nat, q ≤ M ∧ qv = .int .i64 q ∧ cv = .int .i64 (((PN.take q).countP (fun n => decide (n = ni)) : Nat) : Int)) (fun _ qv => M - (intOf qv).toNat)
          case atStart => exact ⟨0, Nat.zero_le _, rfl, by simp⟩
          case round =>
            obtain ⟨q, hq, rfl, rfl⟩ := hrel
            by_cases c3 : q < M
            · obtain ⟨bP, oP, rfl, hlP, hxP⟩ := hrP (by omega)
              obtain ⟨p, hp⟩ : ∃ p, PN[q]? = some p := ⟨_, List.getElem?_eq_getElem (by have e := hpl5.out; omega)⟩
              have hcP1 := hxP q p hp
              have htk : PN.take (q + 1) = PN.take q ++ [p] := by rw [List.take_add_one, hp]; rfl
              have hcq : (PN.take q).countP (fun n => decide (n = ni)) ≤ 1000 := by
                have := List.countP_le_length (p := fun n => decide (n = ni)) (l := PN.take q)
                rw [List.length_take] at this
                have e := hpl5.out
                omega
              have hnx := Lib.hid (show (PN.take (q + 1)).countP (fun n => decide (n = ni)) = (PN.take q).countP (fun n => decide (n = ni)) + if p = ni then 1 else 0 by
                rw [htk, List.countP_append]
                by_cases e : p = ni <;> simp [e])
              generalize (PN.take q).countP (fun n => decide (n = ni)) = cn at *
              have x1 : IntKind.i64.wrap ((cn : Int) + 1) = (cn : Int) + 1 := IntWalk.i64_in _ (by omega)
              have c3' : (q : Int) < (M : Int) := by omega
              clear htk hp hxP
              by_cases e : p = ni
              · have ht : ((mk p).toList == (mk ni).toList) = true := by rw [mk_eq, decide_eq_true e]
                have hn2 := Lib.hid (show (PN.take (q + 1)).countP (fun n => decide (n = ni)) = cn + 1 by rw [hnx.out, if_pos e])
                clear hnx e
                go_wp2
                go_round
                case rel => exact ⟨q + 1, by omega, by go_num, by rw [hn2.out]; go_num⟩
                case measure => simp [intOf]; omega
              · have ht : ((mk p).toList == (mk ni).toList) = false := by rw [mk_eq, decide_eq_false e]
                have hn2 := Lib.hid (show (PN.take (q + 1)).countP (fun n => decide (n = ni)) = cn by rw [hnx.out, if_neg e]; rfl)
                clear hnx e
                go_wp2
                go_round
                case rel => exact ⟨q + 1, by omega, by go_num, by rw [hn2.out]⟩
                case measure => simp [intOf]; omega
            · have hq2 : PN.take q = PN := List.take_of_length_le (by have e := hpl5.out; omega)
              rw [hq2]
              clear hq2
              generalize PN.countP (fun n => decide (n = ni)) = sh at *
              have c3' : ¬ (q : Int) < (M : Int) := by omega
              go_wp2
              go_round
              case rel => exact ⟨i + 1, by omega, by go_num⟩
              case measure => simp [intOf]; omega
        · have hi3 : i = names.length := by omega
          obtain ⟨bP, oP, rfl, hlP, hxP⟩ := hrP (by omega)
          have hcP1 := hxP a nma hpa
          have c2' : ¬ (i : Int) < (names.length : Int) := by omega
          have ht : ((mk nma).toList == (mk nma).toList) = true := by rw [mk_eq, decide_eq_true rfl]
          have z1 : (0 : Int) ≤ (a : Int) := by omega
          have z2 : (a : Int) < (M : Int) := by omega
          have hSS : ∀ w', Kps w12.heap.size w12 w' → (w'.cell? ⟨bP, oP + a, none⟩ = some (.string (mk nma)) ∧ Kps w12.heap.size w12 w') := fun w' hk => ⟨hk.cell hlP hcP1, hk⟩
          have hK0 : Kps w12.heap.size w12 w12.drew := ⟨(Below.refl _ w12).drew, Nat.le_refl _⟩
          have ePk := fun W (h : Kps w12.heap.size w12 W) => dPk W (hT12.below h.1)
          have eNm := fun W (h : Kps w12.heap.size w12 W) => dNm W (hT12.below h.1)
          have eWk := fun W (h : Kps w12.heap.size w12 W) => dWk W (hT12.below h.1)
          have eRW := fun W (h : Kps w12.heap.size w12 W) => dRW _ _ W (strs_below hSR h.1) (strs_below hNR h.1)
          have eSn := fun W v (h : Kps w12.heap.size w12 W) hv => dSn v _ W hv (strs_below hNR h.1)
          clear hrN hrP hrI hxP hpa hcs hcP hcN dPk dNm dWk dRW dSn hi1 hy0 hy1 hy2
          go_wp2
          go_region_held3 (fun w' => w'.cell? ⟨bP, oP + a, none⟩ = some (.string (mk nma)) ∧ Kps w12.heap.size w12 w')
            (first
              | exact hSS _ hK0
              | (go_split_ands; exact hSS _ (by assumption))
              | (go_split_ands; refine hSS _ (Kps.call ?_ hbP); assumption)
              | (go_split_ands; refine hSS _ (Kps.call ?_ hbN); assumption)
              | (go_split_ands; refine hSS _ (Kps.call ?_ hbS); assumption)
              | (go_split_ands; refine hSS _ (Kps.call ?_ hbW); assumption)
              | (go_split_ands; refine hSS _ (Kps.call ?_ hbR); assumption)
              | (go_split_ands; refine hSS _ (Kps.call ?_ hbT); assumption))
            (first
              | (go_at_call 22; (with_reducible refine (ePk _ (by go_split_ands; assumption)).mono ?_); rintro e w13 ⟨rfl, hbP⟩)
              | (go_at_call 19; (with_reducible refine (eNm _ (by go_split_ands; assumption)).mono ?_); rintro e w14 ⟨v14, rfl, ho14, hbN⟩)
              | (go_at_call 18; (with_reducible refine (eWk _ (by go_split_ands; assumption)).mono ?_); rintro e w16 ⟨v16, rfl, ho16, hbW⟩)
              | (go_at_call 23; (with_reducible refine (eRW _ (by go_split_ands; assumption)).mono ?_); rintro e w17 ⟨v17, rfl, ho17, hbR⟩)
              | (go_at_call 17; (with_reducible refine (eSn _ _ (by go_split_ands; assumption) (own_strs ho14)).mono ?_); rintro e w15 ⟨rfl, hbS⟩)
              | (go_at_call 17; (with_reducible refine (dSw _ _ _ (strs_below (own_strs ho16) hbR) (own_strs ho17)).mono ?_); rintro e w18 ⟨rfl, hbT⟩)
              | (go_at_call 17; (with_reducible refine (dSw _ _ _ (own_strs ho16) (strs_below (own_strs ho17) hbW)).mono ?_); rintro e w18 ⟨rfl, hbT⟩))
          have hk18 : Kps w12.heap.size w12 w18 := by go_split_ands; assumption
          go_wp2
          go_ret
          exact ⟨rfl, bt ht12 hk18.1⟩
end Go.Proofs.Ytclngmjfhlindaa.Ma
