/- The document's Is, All, Tokens. -/
import Derived.Test.YthedoophopilgaaGreatDoorRwB
namespace Go.Proofs.YthedoophopilgaaGreatDoor.Rw
open Go.RowKit Go.Proofs.YthedoophopilgaaGreatDoor.Oct
set_option linter.unusedVariables false
set_option maxHeartbeats 1000000 in
theorem refIs_any (x : Fld) (n : ByteArray) (hx : x.1.size ≤ 1099511627776) (hn : n.size ≤ 1099511627776) (w : World) :
    Calls Tryz.prog 37 #[.agg #[.string x.1, .string x.2], .string n] w fun e w' => e = .returned (.bool (isF x n)) ∧ Below w.heap.size w w' := by
  have hB := (Below.refl _ w).alloc (Nat.le_refl _) (.cells #[.string x.1, .string x.2] 64)
  have hz : w.heap.size ≤ (w.alloc (.cells #[.string x.1, .string x.2] 64)).heap.size := by simp
  have d1 := fun W => refLower_any x.1 hx W
  have d2 := fun W => refLower_any n hn W
  have hI := Lib.hid (show ((lowerS x.1).toList == (lowerS n).toList) = isF x n from str_eq _ _)
  generalize lowerS x.1 = a at *
  generalize lowerS n = b at *
  go_enter Tryz.func37, Tryz.ntmps37
  go_wp2_with (go_at_call 54; first | ((with_reducible refine (d1 _).mono ?_); rintro e w1 ⟨rfl, hb1⟩; replace hb1 := Lib.hid hb1) | ((with_reducible refine (d2 _).mono ?_); rintro e w2 ⟨rfl, hb2⟩; replace hb2 := Lib.hid hb2))
  go_ret
  exact ⟨ret_bool hI.out, hB.trans ((hb1.out.trans (hb2.out.mono hb1.out.size)).mono hz)⟩
set_option maxRecDepth 100000 in
set_option maxHeartbeats 4000000 in
theorem refAll_any (xs : List Fld) (n : ByteArray) (hn : n.size ≤ 1099511627776) (v : Value) (w : World) (hv : Flds w v xs) (hN : xs.length ≤ 1000000) (hS : ∀ x ∈ xs, x.1.size ≤ 1099511627776) :
    Calls Tryz.prog 20 #[v, .string n] w fun e w' => ∃ u, e = .returned u ∧ OwnStrs w' w.heap.size u (allF xs n) ∧ Below w.heap.size w w' := by
  obtain ⟨i0, hi, hz0, hz1, hz2⟩ := info_parts info9
  obtain ⟨A, c, rfl, hc, hr⟩ := hv
  have hb0 : Below w.heap.size w (w.alloc (.cells #[] 9)) := (Below.refl _ _).alloc (Nat.le_refl _) _
  have ho0 : (w.alloc (.cells #[] 9)).ownsRow w.heap.size 9 1 (.slice (some ⟨w.heap.size, 0, none⟩) 0 0) 0 [] := World.ownsRow_lit w #[] 0 (Nat.le_refl _) (by unfold maxLen; omega) rfl
  unfold OwnStrs
  go_enter Tryz.func20, Tryz.ntmps20
  go_wp2
  generalize w.alloc (.cells #[] 9) = W0 at *
  generalize hg : w.heap.size = g at *
  go_loopw [5, 11] (fun u i wr => ∃ (k : Nat) (u0 : Value), u0 = u ∧ k ≤ xs.length ∧ i = .int .i64 k ∧ wr.ownsRow g 9 1 u (allF (xs.take k) n).length ((allF (xs.take k) n).map Value.string) ∧ Below g w wr) (fun _ i _ => xs.length - (intOf i).toNat)
  case atStart => exact ⟨0, _, rfl, Nat.zero_le _, rfl, ho0, hb0⟩
  case round =>
    obtain ⟨k, u, rfl, hk, rfl, hown, hb⟩ := hrel
    have hgw : g ≤ wr.heap.size := by have := hb.size; omega
    by_cases c1 : k < xs.length
    · obtain ⟨b, o, rfl, hlt, hx⟩ := hr (by omega)
      have hx0 := hx k xs[k] (by simp [c1])
      have hc0 := (hb.cell (p := ⟨b, o + k * 2, none⟩) (by omega)).trans hx0.1
      have hc1 := (hb.cell (p := ⟨b, o + k * 2 + 1, none⟩) (by omega)).trans hx0.2
      have hal : (allF (xs.take k) n).length ≤ 1000000 := by have := all_le (xs.take k) n; rw [List.length_take] at this; omega
      have hnx := Lib.hid (all_snoc xs k c1 n)
      have dI := fun W => refIs_any xs[k] n (hS _ (by simp)) hn W
      generalize xs[k] = x at *
      generalize allF (xs.take k) n = ys at *
      clear hx0 hx
      cases hI : isF x n with
      | false =>
        rw [hI] at dI
        go_wp2_with (go_at_call 37; (with_reducible refine (dI _).mono ?_); rintro e w1 ⟨rfl, hb1⟩; have hbb := Lib.hid hb1)
        go_roundw
        case rel => exact ⟨k + 1, _, rfl, by omega, by go_num, by rw [hnx.out, hI]; simpa using (hown.alloc _).kept (grown_below hbb.out) (own_none _), (hb.alloc hgw _).trans (hbb.out.mono (by simp; omega))⟩
        case measure => simp [intOf]; omega
      | true =>
        rw [hI] at dI
        go_wp2_with (first
          | (go_at_call 37; (with_reducible refine (dI _).mono ?_); rintro e w1 ⟨rfl, hb1⟩; have hbb := Lib.hid hb1; have hq1 := (hb1.cell (p := ⟨wr.heap.size, 1, none⟩) (by simp)).trans (new_two wr (.string x.1) (.string x.2) 64).2)
          | (at_builtin; refine wpList_append_own _ rfl _ _ 53 rfl g 9 i0 (.string ⟨#[]⟩) 1 16 Tryz.underlying53 hi hz0 hz1 hz2 rfl (by decide) _ _ _ rfl (((hown.alloc _).kept (grown_below hbb.out) (own_none _)).alloc _) ⟨_, 0, none⟩ 1 1 [.string x.2] rfl rfl (cell_one_new _ _ _) (by simp [Value.oneCell']) (by unfold maxLen; omega) (by omega) (by have := hbb.out.size; simp at this ⊢; omega) ?_; intro v' w2 hown' hgrow _))
        have hz1' : wr.heap.size + 1 ≤ w1.heap.size := by have := hbb.out.size; simpa using this
        go_roundw
        case rel =>
          refine ⟨k + 1, _, rfl, by omega, by go_num, ?_, ?_⟩
          · rw [hnx.out, hI]
            simpa using hown'
          · exact grow_low ((((hb.alloc hgw _).trans (hbb.out.mono (by simp; omega)))).alloc (by omega) _) (by simp; omega) hgrow (fun b e => (hown.lt b e).1)
        case measure => simp [intOf]; omega
    · have hk : k = xs.length := by omega
      subst hk
      go_wp2
      go_ret
      refine ⟨u, rfl, ?_, ?_⟩ <;> (try rw [hg])
      · rw [List.take_of_length_le (by omega)] at hown; exact hown
      · exact hb
theorem trim_len (l : List UInt8) : (trimL l).length ≤ l.length := by
  rw [trimL_eq]
  unfold tr tl
  have a := (List.dropWhile_suffix (l := (l.dropWhile isBl).reverse) isBl).length_le
  have b := (List.dropWhile_suffix (l := l) isBl).length_le
  rw [List.length_reverse] at *
  omega
theorem each_bd (Z : Nat) : ∀ (l : List (List UInt8)), (∀ x ∈ l, x.length ≤ Z) → (eachL l).length ≤ l.length * (Z + 1) ∧ ∀ t ∈ eachL l, t.length ≤ Z
  | [], _ => ⟨by simp [eachL], by simp [eachL]⟩
  | x :: l, h => by
    obtain ⟨h1, h2⟩ := each_bd Z l (fun y hy => h y (List.mem_cons_of_mem _ hy))
    have hx := h x List.mem_cons_self
    obtain ⟨p1, p2⟩ := parts_len x
    have k1 := keepL_len (parts x)
    have e : eachL (x :: l) = keepL (parts x) ++ eachL l := rfl
    rw [e, List.length_append, List.length_cons, Nat.add_mul]
    refine ⟨by omega, fun t ht => ?_⟩
    rcases List.mem_append.1 ht with h' | h'
    · unfold keepL at h'
      obtain ⟨y, hy, rfl⟩ := List.mem_map.1 (List.mem_filter.1 h').1
      have := trim_len y
      have := p2 y hy
      omega
    · exact h2 t h'
theorem list_bd (xs : List ByteArray) (Z : Nat) (hZ : ∀ x ∈ xs, x.size ≤ Z) : (listS xs).length ≤ xs.length * (Z + 1) ∧ ∀ t ∈ listS xs, t.size ≤ Z := by
  obtain ⟨h1, h2⟩ := each_bd Z (xs.map (·.data.toList)) (fun x hx => by
    obtain ⟨y, hy, rfl⟩ := List.mem_map.1 hx
    have := hZ y hy
    simpa using this)
  unfold listS
  rw [listL_each]
  refine ⟨by rw [List.length_map]; simpa using h1, fun t ht => ?_⟩
  obtain ⟨y, hy, rfl⟩ := List.mem_map.1 ht
  have := h2 y hy
  rw [ba_size]; exact this
theorem all_bd (xs : List Fld) (n : ByteArray) (Z : Nat) (h : ∀ x ∈ xs, x.2.size ≤ Z) : ∀ t ∈ allF xs n, t.size ≤ Z := by
  intro t ht
  unfold allF at ht
  obtain ⟨y, hy, rfl⟩ := List.mem_map.1 ht
  exact h y (List.mem_filter.1 hy).1
theorem tok_bd (xs : List Fld) (n : ByteArray) (Z : Nat) (h : ∀ x ∈ xs, x.2.size ≤ Z) : (tokF xs n).length ≤ xs.length * (Z + 1) ∧ ∀ t ∈ tokF xs n, t.size ≤ Z := by
  obtain ⟨h1, h2⟩ := list_bd (allF xs n) Z (all_bd xs n Z h)
  have h3 := Nat.mul_le_mul_right (Z + 1) (all_le xs n)
  unfold tokF
  refine ⟨by rw [List.length_map]; omega, fun t ht => ?_⟩
  obtain ⟨y, hy, rfl⟩ := List.mem_map.1 ht
  rw [lowerS_size]
  exact h2 y hy
/-- The slice that lies at A is another one than u, and its block is as it was. -/
def Apart (A : Option Addr) (u : Value) (w2 wr : World) : Prop := ∀ b o, A = some ⟨b, o, none⟩ → b < w2.heap.size → u.ownBlock ≠ some b ∧ wr.heap[b]? = w2.heap[b]?
theorem Apart.step {A : Option Addr} {u v' : Value} {w2 wr wa w3 : World} (h : Apart A u w2 wr) (hs : w2.heap.size ≤ wr.heap.size) (hb : Below wr.heap.size wr wa) (hg : wa.grownBy w3 u.ownBlock) (hat : v'.ownBlock = u.ownBlock ∨ v'.ownBlock = some wa.heap.size) : Apart A v' w2 w3 := by
  intro b o hA hlt
  obtain ⟨h1, h2⟩ := h b o hA hlt
  have hz := hb.size
  refine ⟨fun e => ?_, ?_⟩
  · rcases hat with e1 | e1
    · exact h1 (e1.symm.trans e)
    · rw [e1] at e
      have := Option.some.inj e
      omega
  · exact (hg.block b (by omega) (fun e => h1 e.symm)).trans ((hb.block b (by omega)).trans h2)
theorem Apart.same {A : Option Addr} {u : Value} {w2 wr w3 : World} (h : Apart A u w2 wr) (hs : w2.heap.size ≤ wr.heap.size) (hb : Below wr.heap.size wr w3) : Apart A u w2 w3 := by
  intro b o hA hlt
  obtain ⟨h1, h2⟩ := h b o hA hlt
  exact ⟨h1, (hb.block b (by omega)).trans h2⟩
theorem Apart.cell {b o : Nat} {u : Value} {w2 wr : World} (h : Apart (some ⟨b, o, none⟩) u w2 wr) (hlt : b < w2.heap.size) {j : Nat} {x : Value} (hc : w2.cell? ⟨b, j, none⟩ = some x) : wr.cell? ⟨b, j, none⟩ = some x :=
  (World.cell?_of_block (a := ⟨b, j, none⟩) (h b o rfl hlt).2).trans hc
set_option maxRecDepth 100000 in
set_option maxHeartbeats 4000000 in
theorem refTokens_any (xs : List Fld) (n : ByteArray) (hn : n.size ≤ 1099511627776) (v : Value) (w : World) (hv : Flds w v xs) (hN : xs.length ≤ 100) (hS : ∀ x ∈ xs, x.1.size ≤ 1000 ∧ x.2.size ≤ 1000) :
    Calls Tryz.prog 35 #[v, .string n] w fun e w' => ∃ u, e = .returned u ∧ OwnStrs w' w.heap.size u (tokF xs n) ∧ Below w.heap.size w w' := by
  obtain ⟨i0, hi, hz0, hz1, hz2⟩ := info_parts info9
  have hb0 : Below w.heap.size w (w.alloc (.cells #[] 9)) := (Below.refl _ _).alloc (Nat.le_refl _) _
  have ho0 : (w.alloc (.cells #[] 9)).ownsRow w.heap.size 9 1 (.slice (some ⟨w.heap.size, 0, none⟩) 0 0) 0 [] := World.ownsRow_lit w #[] 0 (Nat.le_refl _) (by unfold maxLen; omega) rfl
  have hz : w.heap.size + 1 ≤ (w.alloc (.cells #[] 9)).heap.size := by simp
  have hv' := hv.below hb0
  have hal := all_le xs n
  have dA := fun W h => refAll_any xs n hn v W h (by omega) (fun x hx => by have := (hS x hx).1; omega)
  have hbd := all_bd xs n 1000 (fun x hx => (hS x hx).2)
  have dL := fun u W h => refList_any (allF xs n) u W h (by omega) hbd
  obtain ⟨hL1, hL2⟩ := list_bd (allF xs n) 1000 hbd
  have hL1' : (listS (allF xs n)).length ≤ 1000000 := by
    have := Nat.mul_le_mul_right (1000 + 1) hal
    omega
  have hT := Lib.hid (show tokF xs n = (listS (allF xs n)).map lowerS from rfl)
  generalize tokF xs n = T at *
  generalize allF xs n = ys at *
  generalize listS ys = zs at *
  clear hL1
  unfold OwnStrs
  go_enter Tryz.func35, Tryz.ntmps35
  go_wp2_with (first
    | (go_at_call 20; (with_reducible refine (dA _ hv').mono ?_); rintro e w1 ⟨u1, rfl, ho1, hb1⟩; replace hb1 := Lib.hid hb1)
    | (go_at_call 53; (with_reducible refine (dL _ _ ho1.strs).mono ?_); rintro e w2 ⟨u2, rfl, ho2, hb2⟩; replace hb2 := Lib.hid hb2; obtain ⟨A2, c2, rfl, hc2, hr2⟩ := ho2.strs))
  have hb2' : Below w.heap.size w w2 := hb0.trans ((hb1.out.trans (hb2.out.mono hb1.out.size)).mono (by omega))
  have ho2' : w2.ownsRow w.heap.size 9 1 (.slice (some ⟨w.heap.size, 0, none⟩) 0 0) 0 [] := (ho0.kept (grown_below hb1.out) (own_none _)).kept (grown_below hb2.out) (own_none _)
  have hap : Apart A2 (.slice (some ⟨w.heap.size, 0, none⟩) 0 0) w2 w2 := fun b o hA hlt => by
    refine ⟨fun e => ?_, rfl⟩
    have e1 : w.heap.size = b := Option.some.inj e
    have e2 := (World.ownsRow.lt ho2 b (by rw [hA]; rfl)).1
    have := hb1.out.size
    omega
  have hzz : w.heap.size ≤ w2.heap.size := by have := hb1.out.size; have := hb2.out.size; omega
  clear ho1 ho2 hb1 hb2 hb0 ho0 dA dL hv' hv hbd hal
  generalize hg : w.heap.size = g at *
  go_loopw [5, 14] (fun u i wr => ∃ (k : Nat) (u0 : Value), u0 = u ∧ k ≤ zs.length ∧ i = .int .i64 k ∧ wr.ownsRow g 9 1 u k (((zs.take k).map lowerS).map Value.string) ∧ Apart A2 u w2 wr ∧ w2.heap.size ≤ wr.heap.size ∧ Below g w wr) (fun _ i _ => zs.length - (intOf i).toNat)
  case atStart => exact ⟨0, _, rfl, Nat.zero_le _, rfl, ho2', hap, Nat.le_refl _, hb2'⟩
  case round =>
    obtain ⟨k, u, rfl, hk, rfl, hown, hap, hsw, hb⟩ := hrel
    have hgw : g ≤ wr.heap.size := by omega
    by_cases c1 : k < zs.length
    · obtain ⟨b, o, rfl, hlt, hx⟩ := hr2 (by omega)
      have hc0 := hap.cell hlt (hx k zs[k] (by simp [c1]))
      have hnx := Lib.hid (show ((zs.take (k + 1)).map lowerS).map Value.string = ((zs.take k).map lowerS).map Value.string ++ [.string (lowerS zs[k])] by rw [List.take_succ_eq_append_getElem c1, List.map_append, List.map_append]; rfl)
      have dX := fun W => refLower_any zs[k] (by have := hL2 zs[k] (by simp); omega) W
      generalize lowerS zs[k] = lw at *
      generalize zs[k] = x at *
      clear hx
      go_wp2_with (first
        | (go_at_call 54; (with_reducible refine (dX _).mono ?_); rintro e w3 ⟨rfl, hb3⟩; replace hb3 := Lib.hid hb3)
        | (at_builtin; refine wpList_append_own_at _ rfl _ _ 53 rfl g 9 i0 (.string ⟨#[]⟩) 1 16 Tryz.underlying53 hi hz0 hz1 hz2 rfl (by decide) _ _ _ rfl ((hown.kept (grown_below hb3.out) (own_none _)).alloc _) ⟨_, 0, none⟩ 1 1 [.string lw] rfl rfl (cell_one_new _ _ _) (by simp [Value.oneCell']) (by unfold maxLen; omega) (by omega) (by have := hb3.out.size; simp at this ⊢; omega) ?_; intro v' w4 hown' hgrow _ hat))
      have hz3 := hb3.out.size
      have hbA : Below wr.heap.size wr (w3.alloc (.cells #[.string lw] 9)) := hb3.out.alloc hz3 _
      have hap' := hap.step hsw hbA hgrow hat
      have hz4 := hgrow.size
      simp at hz4
      go_roundw
      case rel =>
        refine ⟨k + 1, _, rfl, by omega, by go_num, ?_, hap', by omega, ?_⟩
        · rw [hnx.out]
          exact hown'
        · exact grow_low (hb.trans (hbA.mono hgw)) (by simp; omega) hgrow (fun b e => (hown.lt b e).1)
      case measure => simp [intOf]; omega
    · have hk : k = zs.length := by omega
      subst hk
      go_wp2
      go_ret
      refine ⟨u, rfl, ?_, ?_⟩ <;> (try rw [hg])
      · rw [List.take_of_length_le (by omega)] at hown
        rw [hT.out, List.length_map]
        exact hown
      · exact hb
end Go.Proofs.YthedoophopilgaaGreatDoor.Rw
