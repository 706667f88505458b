/- The law of shares. -/
import Derived.Test.YtclngmjfhlindaaMaN
import Derived.Test.YtclngmjfhlindaaMaR
namespace Go.Proofs.Ytclngmjfhlindaa.Ma
open Go.RowKit Go.Proofs.Ytclngmjfhlindaa.Sip
set_option linter.unusedVariables false
theorem row_ents {w : World} {base : Nat} {e : TypeId} {v : Value} {xs : List Ent} (h : w.ownsRow base e 2 v xs.length (xs.flatMap entV)) : Ents w v xs := by
  have h' := h
  rcases h.2 with ⟨rfl, h0⟩ | ⟨g, cap, cur, rfl, hb, hg, h1, h2, h3, h4⟩
  · exact ⟨none, 0, by rw [h0], by omega, fun hp => by omega⟩
  · refine ⟨_, cap, rfl, h1, fun _ => ⟨g, 0, rfl, (Array.getElem?_eq_some_iff.1 hg).1, fun j x hj => ?_⟩⟩
    have hj2 : j < xs.length := (List.getElem?_eq_some_iff.1 hj).1
    have hx : xs[j] = x := (List.getElem?_eq_some_iff.1 hj).2
    obtain ⟨f1, f2⟩ := flat_get xs j hj2
    rw [hx] at f1 f2
    exact ⟨by rw [Nat.zero_add, h'.cellAt (j * 2) (by omega)]; exact f1, by rw [Nat.zero_add, h'.cellAt (j * 2 + 1) (by omega)]; exact f2⟩
theorem flat_set : ∀ (L : List Ent) (k : Nat) (h : k < L.length) (c : Int), (L.flatMap entV).set (k * 2 + 1) (.int .i64 c) = (L.set k (L[k].1, c)).flatMap entV
  | [], k, h, c => by simp at h
  | x :: L, 0, h, c => rfl
  | x :: L, k + 1, h, c => by
    have := flat_set L k (by simpa using h) c
    rw [show (k + 1) * 2 + 1 = (k * 2 + 1) + 2 by omega]
    show entV x ++ _ = _
    simp only [List.set_cons_succ, List.flatMap_cons, List.getElem_cons_succ]
    rw [← this]; rfl
/-- All with one weight, from the first k on. -/
def wtd (c : Int) (k : Nat) (L : List Ent) : List Ent := (L.take k).map (fun x => (x.1, c)) ++ L.drop k
theorem wtd_len (c : Int) (k : Nat) (L : List Ent) (hk : k ≤ L.length) : (wtd c k L).length = L.length := by unfold wtd; simp; omega
theorem wtd_get (c : Int) (k : Nat) (L : List Ent) (hk : k < L.length) : (wtd c k L)[k]'(by rw [wtd_len c k L (by omega)]; exact hk) = L[k] := by
  unfold wtd
  have hm : min k L.length = k := by omega
  rw [List.getElem_append_right (by rw [List.length_map, List.length_take]; omega)]
  simp [hm]
theorem wtd_succ (c : Int) (k : Nat) (L : List Ent) (hk : k < L.length) : (wtd c k L).set k (L[k].1, c) = wtd c (k + 1) L := by
  unfold wtd
  have hm : min k L.length = k := by omega
  rw [List.set_append_right _ _ (by rw [List.length_map, List.length_take]; omega)]
  rw [List.take_succ_eq_append_getElem hk, List.map_append]
  simp [hm]
  rw [List.drop_eq_getElem_cons hk]; rfl
theorem few_mem {n : Nat} {xs : List Ent} {x : Ent} (h : x ∈ few12 n xs) : x.1.length ≤ 13 := by
  unfold few12 at h
  obtain ⟨y, _, rfl⟩ := List.mem_map.1 h
  show (110 :: y.1.take 12).length ≤ 13
  rw [List.length_cons, List.length_take]; omega
theorem few_len (n : Nat) (xs : List Ent) : (few12 n xs).length ≤ n := by unfold few12; simp; omega
theorem row_slice {w : World} {base size n : Nat} {e : TypeId} {v : Value} {xs : List Value} (h : w.ownsRow base e size v n xs) : ∃ A c, v = .slice A n c := by
  rcases h.2 with ⟨rfl, h0⟩ | ⟨g, cap, cur, rfl, _⟩
  · exact ⟨none, 0, by rw [h0]⟩
  · exact ⟨_, _, rfl⟩
def leastZ (c : List Nat) : Int := c.foldl (fun (a : Int) (x : Nat) => min a (x : Int)) 503
def mostZ (c : List Nat) : Int := c.foldl (fun (a : Int) (x : Nat) => max a (x : Int)) 0
theorem least_ge (t : Nat) : ∀ (c : List Nat) (a : Int), (∀ x ∈ c, x = t ∨ x = t + 1) → (t : Int) ≤ a → a ≤ 503 → (t : Int) ≤ c.foldl (fun (a : Int) (x : Nat) => min a (x : Int)) a ∧ c.foldl (fun (a : Int) (x : Nat) => min a (x : Int)) a ≤ 503
  | [], a, _, h, h2 => ⟨h, h2⟩
  | x :: c, a, hc, h, h2 => by
    have hx := hc x (by simp)
    exact least_ge t c (min a (x : Int)) (fun y hy => hc y (List.mem_cons_of_mem _ hy)) (by omega) (by omega)
theorem most_le (t : Nat) : ∀ (c : List Nat) (a : Int), (∀ x ∈ c, x = t ∨ x = t + 1) → 0 ≤ a → a ≤ (t : Int) + 1 → 0 ≤ c.foldl (fun (a : Int) (x : Nat) => max a (x : Int)) a ∧ c.foldl (fun (a : Int) (x : Nat) => max a (x : Int)) a ≤ (t : Int) + 1
  | [], a, _, h, h2 => ⟨h, h2⟩
  | x :: c, a, hc, h, h2 => by
    have hx := hc x (by simp)
    exact most_le t c (max a (x : Int)) (fun y hy => hc y (List.mem_cons_of_mem _ hy)) (by omega) (by omega)
theorem snoc_foldl {α : Type} (f : α → Nat → α) (a : α) (c : List Nat) (k : Nat) (h : k < c.length) : (c.take (k + 1)).foldl f a = f ((c.take k).foldl f a) c[k] := by
  rw [List.take_succ_eq_append_getElem h, List.foldl_append]; rfl
def cnts (n : Nat) (P : List Int) : List Nat := (List.range n).map (fun i => cnt i P)
theorem shares_cnts (n : Nat) (P : List Int) : shareS n P = (cnts n P).map (fun x : Nat => (x : Int)) := by
  unfold shareS cnts
  rw [List.map_map]; rfl
theorem sum_take_le (c : List Nat) (k : Nat) : (c.take k).sum ≤ c.sum := by
  have h := congrArg List.sum (List.take_append_drop k c)
  rw [List.sum_append] at h
  omega
theorem sum_succ (c : List Nat) (k : Nat) (h : k < c.length) : (c.take (k + 1)).sum = (c.take k).sum + c[k] := by
  rw [List.take_succ_eq_append_getElem h, List.sum_append]; simp
set_option maxRecDepth 100000 in
set_option maxHeartbeats 4000000 in
theorem shares_law (key : List UInt8) (xs : List Ent) (v : Value) (wt : Int) (w : World) (hv : Ents w v xs) (hN : xs.length ≤ 140737488355328) (hT : ∀ x ∈ xs, x.1.length ≤ 9223372036854775807) :
    Calls Try.prog 4 #[.string (mk key), v, .int .i64 wt] w fun e w' => e = .returned (.bool true) ∧ Below w.heap.size w w' := by
  have dA := awake_any w
  have dF := fun W h => few_any 5 (by omega) xs v W h hN hT
  have hb0 : Below w.heap.size w w := Below.refl _ _
  have hFl := few_len 5 xs
  have hFm : ∀ x ∈ few12 5 xs, x.1.length ≤ 13 := fun x h => few_mem h
  generalize few12 5 xs = F at *
  go_enter Try.func4, Try.ntmps4
  go_wp2_with (first
    | (go_at_call 7; refine dA.mono ?_; rintro e w1 ⟨rfl, hb1⟩)
    | (go_at_call 8; refine (dF _ (hv.below hb1)).mono ?_; rintro e w2 ⟨u, rfl, hown, hb2⟩; obtain ⟨A, cp, rfl, _, _⟩ := row_ents hown))
  have hbt := bt hb1 hb2
  have hz1 := hb1.size
  have hz2 := hb2.size
  generalize w1.heap.size = g1 at *
  obtain ⟨W0, hW0⟩ : ∃ z, IntKind.i64.wrap (1 + bits .and .i64 wt 255) = z := ⟨_, rfl⟩
  have hown0 : w2.ownsRow g1 42 2 (.slice A F.length cp) F.length ((wtd W0 0 F).flatMap entV) := hown
  clear hown dF dA hb1 hb2
  go_loopw [22] (fun iv wr => ∃ k, k ≤ F.length ∧ iv = .int .i64 k ∧ wr.ownsRow g1 42 2 (.slice A F.length cp) F.length ((wtd W0 k F).flatMap entV) ∧ Below w.heap.size w wr) (fun iv _ => F.length - (intOf iv).toNat)
  case atStart => exact ⟨0, Nat.zero_le _, rfl, hown0, hbt⟩
  case round =>
    obtain ⟨k, hk, rfl, hown, hb⟩ := hrel
    by_cases c1 : k < F.length
    · obtain ⟨g2, c2, hA, hg2, hg3⟩ := hown.form (by omega)
      cases hA
      have hst := Lib.hid (hown.stored (k * 2 + 1) (.int .i64 W0))
      have hcell : wr.cell? ⟨g2, k * 2 + 1, none⟩ = some (.int .i64 F[k].2) := by
        rw [hown.cellAt (k * 2 + 1) (by omega)]
        have h := (flat_get (wtd W0 k F) k (by rw [wtd_len _ _ _ hk]; exact c1)).2
        rw [wtd_get _ _ _ c1] at h
        exact h
      have hfz := hown.frozenAt (k * 2 + 1)
      have hnx := Lib.hid (show ((wtd W0 k F).flatMap entV).set (k * 2 + 1) (.int .i64 W0) = (wtd W0 (k + 1) F).flatMap entV by
        rw [flat_set _ k (by rw [wtd_len _ _ _ hk]; exact c1), wtd_get _ _ _ c1, wtd_succ _ _ _ c1])
      generalize F[k] = fk at *
      go_wp2
      go_roundw
      case rel => exact ⟨k + 1, by omega, by go_num, by rw [← hnx.out]; exact hst.out.1, hb.grown hst.out.2 (by have := hb.size; omega) (fun j e => by cases e; omega)⟩
      case measure => simp [intOf]; omega
    · have hk : k = F.length := by omega
      subst hk
      have hwl := wtd_len W0 F.length F (Nat.le_refl _)
      have hwE : wtd W0 F.length F = F.map (fun x => (x.1, W0)) := by unfold wtd; rw [List.take_length, List.drop_length, List.append_nil]
      have hwm : ∀ x ∈ F.map (fun x => (x.1, W0)), x.1.length ≤ 13 ∧ x.2 = W0 := by
        intro x hx
        obtain ⟨y, hy, rfl⟩ := List.mem_map.1 hx
        exact ⟨hFm y hy, rfl⟩
      rw [hwE] at hown hwl
      clear hwE
      generalize F.map (fun x => (x.1, W0)) = X at *
      have hX5 : X.length ≤ 5 := by omega
      rw [← hwl] at hown ⊢
      have hEx := row_ents hown
      have dR := refCheck_any X 503 _ wr hEx (by omega)
      clear hwl hown0
      rcases Classical.em (OkM X ((503 : Nat) : Int)) with hok | hok
      case inr =>
        have he : errM X 503 = 1 := errM_1 hok
        rw [he] at dR
        go_wp2_with (go_at_call 12; refine dR.mono ?_; rintro e w3 ⟨rfl, hb3⟩)
        go_ret
        exact ⟨rfl, hb.trans (hb3.mono hb.size)⟩
      have he : errM X 503 = 0 := errM_0 hok
      rw [he] at dR
      have hKl := keyL_len key
      have dK := fun W => keyOf_any key W
      generalize keyL key = K at *
      have dO := fun W h => own_any X (.slice A X.length cp) W h (by omega)
      have dB := fun v' W h => build_ok K hKl X 503 hok v' W h (fun x hx => by have := (hwm x hx).1; omega)
      go_wp2_with (first
        | (go_at_call 12; refine dR.mono ?_; rintro e w3 ⟨rfl, hb3⟩)
        | (go_at_call 9; refine (dK _).mono ?_; rintro e w4 ⟨rfl, hb4⟩)
        | (go_at_call 11; refine (dO _ ((hEx.below hb3).below hb4)).mono ?_; rintro e w5 ⟨u5, rfl, hown5, hb5⟩; obtain ⟨A5, c5, rfl, _, _⟩ := row_ents hown5)
        | (go_at_call 10; refine (dB _ _ (row_ents hown5)).mono ?_; rintro e w6 ⟨hb6, ys, tb, hp, hs, rfl, htb, hT6, hok6⟩))
      have hyl : ys.length = X.length := hp.length_eq
      have hvals := plc_vals (K := K) hok6
      have hPl := plc_len (K := K) hok6
      have hfacts : Hid ((cnts X.length (plc K ys 503)).length = X.length ∧ (X.length = 0 → (cnts X.length (plc K ys 503)) = []) ∧ (0 < X.length → (cnts X.length (plc K ys 503)).sum = 503 ∧ ∃ t, t ≤ 503 ∧ ∀ x ∈ cnts X.length (plc K ys 503), x = t ∨ x = t + 1)) := Lib.hid (by
        have hcl : (cnts X.length (plc K ys 503)).length = X.length := by unfold cnts; simp
        refine ⟨hcl, fun h0 => List.eq_nil_of_length_eq_zero (by omega), fun h0 => ?_⟩
        have hy : ys ≠ [] := fun h => by rw [h] at hyl; simp at hyl; omega
        have hsum := sum_cnt ys.length (plc K ys 503) (plc_full (K := K) hok6 hy)
        rw [hPl, hyl] at hsum
        obtain ⟨t, ht⟩ := plc_bal (K := K) hok6 hy W0 (fun x hx => (hwm x (hp.mem_iff.1 hx)).2)
        rw [hyl] at ht
        have hmem : ∀ x ∈ cnts X.length (plc K ys 503), x = t ∨ x = t + 1 := by
          intro x hx
          unfold cnts at hx
          obtain ⟨i, hi, rfl⟩ := List.mem_map.1 hx
          exact ht i (List.mem_range.1 hi)
        refine ⟨hsum, t, ?_, hmem⟩
        have h1 := ht 0 h0
        have h2 := sum_take_le (cnts X.length (plc K ys 503)) 1
        have h3 := sum_succ (cnts X.length (plc K ys 503)) 0 (by rw [hcl]; exact h0)
        have h4 : (cnts X.length (plc K ys 503))[0]'(by rw [hcl]; exact h0) = cnt 0 (plc K ys 503) := by unfold cnts; simp
        rw [h4] at h3
        have h5 : (cnts X.length (plc K ys 503)).sum = 503 := hsum
        have h6 : (cnts X.length (plc K ys 503)).take (0 + 1) = (cnts X.length (plc K ys 503)).take 1 := rfl
        rw [h6, List.take_zero, List.sum_nil] at h3
        omega)
      have dS := shares_any (ys.map Prod.fst) (plc K ys 503) hvals tb w6 hT6 (by omega) (by rw [List.length_map]; omega)
      rw [List.length_map, hyl, shares_cnts, List.map_map] at dS
      have hb6t := bt (bt (bt (bt hb hb3) hb4) hb5) hb6
      clear hvals hPl hT6 hok6 hp hs hb hb3 hb4 hb5 hb6 hown hEx dR dK dB dO hown5 hwm hyl htb hok he
      generalize cnts X.length (plc K ys 503) = cs at *
      go_wp2_with (go_at_call 16; refine dS.mono ?_; rintro e w7 ⟨v7, rfl, hown7, hb7⟩; obtain ⟨A7, c7, rfl⟩ := row_slice hown7)
      obtain ⟨hcl, hc0, hc1⟩ := hfacts.out
      replace hc0 := Lib.hid hc0
      replace hc1 := Lib.hid hc1
      clear hfacts dS
      have hbt7 := bt hb6t hb7
      have hs1 : ∀ k, k ≤ X.length → (cs.take k).sum ≤ 503 := fun k hk => by
        rcases Nat.lt_or_ge 0 X.length with h | h
        · have := (hc1.out h).1; have := sum_take_le cs k; omega
        · rw [hc0.out (by omega)]; simp
      replace hs1 := Lib.hid hs1
      go_loopw [11, 12, 13, 53] (fun av lv mv iv wr => ∃ k, k ≤ X.length ∧ iv = .int .i64 k ∧ av = .int .i64 ((cs.take k).sum : Nat) ∧ lv = .int .i64 (leastZ (cs.take k)) ∧ mv = .int .i64 (mostZ (cs.take k)) ∧ wr = w7) (fun _ _ _ iv _ => X.length - (intOf iv).toNat)
      case atStart => exact ⟨0, Nat.zero_le _, rfl, by simp, by simp [leastZ], by simp [mostZ], rfl⟩
      case round =>
        obtain ⟨k, hk, rfl, rfl, rfl, rfl, rfl⟩ := hrel
        by_cases c1 : k < X.length
        · obtain ⟨g7, cc7, hA, hg7, hl7⟩ := hown7.form (by omega)
          cases hA
          have hkc : k < cs.length := by omega
          have hcell : wr.cell? ⟨g7, k, none⟩ = some (.int .i64 (cs[k] : Nat)) := by
            rw [hown7.cellAt k (by omega), List.getElem?_map, List.getElem?_eq_getElem hkc]; rfl
          have n1 := Lib.hid (sum_succ cs k hkc)
          have n2 := Lib.hid (show leastZ (cs.take (k + 1)) = min (leastZ (cs.take k)) (cs[k] : Nat) from snoc_foldl _ _ cs k hkc)
          have n3 := Lib.hid (show mostZ (cs.take (k + 1)) = max (mostZ (cs.take k)) (cs[k] : Nat) from snoc_foldl _ _ cs k hkc)
          have hb1 := hs1.out (k + 1) (by omega)
          rw [n1.out] at hb1
          generalize cs[k] = ck at *
          generalize hsk : (cs.take k).sum = sk at *
          generalize leastZ (cs.take k) = lk at *
          generalize mostZ (cs.take k) = mk_ at *
          have x1 : IntKind.i64.wrap ((sk : Int) + (ck : Int)) = (sk : Int) + (ck : Int) := IntWalk.i64_in _ (by omega)
          clear hsk hown7
          go_wp2
          go_roundw
          case rel => exact ⟨k + 1, by omega, by go_num, by rw [n1.out]; go_num, by rw [n2.out], by rw [n3.out], by first | rfl | trivial⟩
          case measure => simp [intOf]; omega
        · have hk2 : cs.take k = cs := List.take_of_length_le (by omega)
          rw [hk2]
          rcases Nat.lt_or_ge 0 X.length with h | h
          · obtain ⟨h1, t, ht, hm⟩ := hc1.out h
            obtain ⟨l1, l2⟩ := least_ge t cs 503 hm (by omega) (by omega)
            obtain ⟨m1, m2⟩ := most_le t cs 0 hm (by omega) (by omega)
            have l1' : (t : Int) ≤ leastZ cs := l1
            have l2' : leastZ cs ≤ 503 := l2
            have m1' : 0 ≤ mostZ cs := m1
            have m2' : mostZ cs ≤ (t : Int) + 1 := m2
            rw [h1]
            clear l1 l2 m1 m2
            generalize leastZ cs = lz at *
            generalize mostZ cs = mz at *
            have x1 : IntKind.i64.wrap (mz - lz) = mz - lz := IntWalk.i64_in _ (by omega)
            have x2 : mz - lz ≤ 1 := by omega
            have x3 : ¬ (X.length : Int) = 0 := by omega
            have x4 : ¬ X = [] := fun e => by rw [e] at h; simp at h
            go_wp2
            go_ret
            exact ⟨rfl, hbt7⟩
          · have h0 := hc0.out (by omega)
            rw [h0]
            have x4 : X = [] := List.eq_nil_of_length_eq_zero (by omega)
            subst x4
            have x3 : (([] : List Ent).length : Int) = 0 := rfl
            go_wp2
            go_ret
            exact ⟨rfl, hbt7⟩
end Go.Proofs.Ytclngmjfhlindaa.Ma
