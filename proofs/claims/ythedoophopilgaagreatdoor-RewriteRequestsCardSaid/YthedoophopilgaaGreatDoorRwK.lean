/- fields.Fields.Tokens; rewrite.Hops. -/
import Derived.Test.YthedoophopilgaaGreatDoorRwJ
namespace Go.Proofs.YthedoophopilgaaGreatDoor.Rw
open Go.RowKit Go.Proofs.YthedoophopilgaaGreatDoor.Oct
set_option linter.unusedVariables false
theorem join_len (m : Nat) : ∀ l : List (List UInt8), (∀ x ∈ l, x.length ≤ m) → (Lib.join l [44]).length ≤ l.length * (m + 1)
  | [], _ => by simp [Lib.join]
  | [x], h => by have := h x (by simp); simp [Lib.join]; omega
  | x :: y :: r, h => by
    have ih := join_len m (y :: r) (fun z hz => h z (by simp at hz ⊢; exact .inr hz))
    have hx := h x (by simp)
    rw [join_two, List.length_append, List.length_cons]
    simp only [List.length_cons, Nat.add_mul] at ih ⊢
    omega
theorem map_set_at {α : Type} (f : α → α) (zs : List α) (k : Nat) (h : k < zs.length) : ((zs.take k).map f ++ zs.drop k).set k (f zs[k]) = (zs.take (k + 1)).map f ++ zs.drop (k + 1) := by
  have hl : ((zs.take k).map f).length = k := by rw [List.length_map, List.length_take]; omega
  rw [List.set_append_right _ _ (by omega), hl, Nat.sub_self, List.drop_eq_getElem_cons h, List.set_cons_zero, List.take_succ_eq_append_getElem h, List.map_append, List.append_assoc]
  rfl
theorem map_at {α : Type} (f : α → α) (zs : List α) (k : Nat) (h : k < zs.length) : ((zs.take k).map f ++ zs.drop k)[k]? = some zs[k] := by
  have hl : ((zs.take k).map f).length = k := by rw [List.length_map, List.length_take]; omega
  rw [List.getElem?_append_right (by omega), hl, Nat.sub_self, List.drop_eq_getElem_cons h]; rfl
set_option maxRecDepth 100000 in
set_option maxHeartbeats 4000000 in
theorem tokens_any (xs : List Fld) (n : ByteArray) (hn : n.size ≤ maxLen) (v : Value) (w : World) (hv : Flds w v xs) (hN : xs.length ≤ 100) (hS : ∀ x ∈ xs, x.1.size ≤ 1000 ∧ x.2.size ≤ 1000) :
    Calls Tryz.prog 25 #[v, .string n] w fun e w' => ∃ u, e = .returned u ∧ OwnStrs w' w.heap.size u (tokF xs n) ∧ Below w.heap.size w w' := by
  have hal := all_le xs n
  have dA := all_any xs n hn v w hv (by omega) (fun x hx => by have := (hS x hx).1; unfold maxLen; omega)
  have hbd := all_bd xs n 1000 (fun x hx => (hS x hx).2)
  have hjl : (Lib.join ((allF xs n).map (·.data.toList)) [44]).length ≤ 1099511627776 := by
    have h := join_len 1000 ((allF xs n).map (·.data.toList)) (fun x hx => by
      obtain ⟨y, hy, rfl⟩ := List.mem_map.1 hx
      have := hbd y hy
      simpa using this)
    rw [List.length_map] at h
    have := Nat.mul_le_mul_right (1000 + 1) hal
    omega
  have dL := fun u W h => list_any (allF xs n) u W h (by omega) hjl
  obtain ⟨hL1, hL2⟩ := list_bd (allF xs n) 1000 hbd
  have hL1' : (listS (allF xs n)).length ≤ 1000000 := by
    have := Nat.mul_le_mul_right (1000 + 1) hal
    omega
  have hT := Lib.hid (show tokF xs n = (listS (allF xs n)).map lowerS from rfl)
  generalize tokF xs n = T at *
  generalize allF xs n = ys at *
  generalize listS ys = zs at *
  clear hL1 hbd hjl hal
  unfold OwnStrs
  go_enter Tryz.func25, Tryz.ntmps25
  go_wp2_with (first
    | (go_at_call 32; (with_reducible refine dA.mono ?_); rintro e w1 ⟨u1, rfl, ho1, hb1⟩; replace hb1 := Lib.hid hb1)
    | (go_at_call 39; (with_reducible refine (dL _ _ ho1.strs).mono ?_); rintro e w2 ⟨u2, rfl, ho2, hb2⟩; replace hb2 := Lib.hid hb2; obtain ⟨A2, c2, rfl, hc2, hr2⟩ := ho2.strs))
  have hbB : Below w.heap.size w w2 := hb1.out.trans (hb2.out.mono hb1.out.size)
  have ho2' : w2.ownsRow w.heap.size 9 1 (.slice A2 zs.length c2) zs.length (((zs.take 0).map lowerS ++ zs.drop 0).map Value.string) := by
    have := own_lower ho2 hb1.out.size
    simpa using this
  clear ho1 ho2 hb1 hb2 dA dL hv hr2
  generalize hg : w.heap.size = base at *
  go_loopw [14] (fun i wr => ∃ k : Nat, k ≤ zs.length ∧ i = .int .i64 k ∧ wr.ownsRow base 9 1 (.slice A2 zs.length c2) zs.length (((zs.take k).map lowerS ++ zs.drop k).map Value.string) ∧ Below base w wr) (fun i _ => zs.length - (intOf i).toNat)
  case atStart => exact ⟨0, Nat.zero_le _, rfl, ho2', hbB⟩
  case round =>
    obtain ⟨k, hk, rfl, hown, hb⟩ := hrel
    have hsw : w.heap.size ≤ wr.heap.size := hb.size
    by_cases c1 : k < zs.length
    · rcases id hown.2 with ⟨_, h0⟩ | ⟨g, cap, cur, he, hbg, hgg, _, _, _, _⟩
      · omega
      cases he
      have hgl : g < wr.heap.size := (Array.getElem?_eq_some_iff.1 hgg).1
      have hc0 : wr.cell? ⟨g, k, none⟩ = some (.string zs[k]) := (hown.cellAt k (by omega)).trans (by rw [List.getElem?_map, map_at lowerS zs k c1]; rfl)
      have dX := fun W => lower_any zs[k] (by have := hL2 zs[k] (by simp); unfold maxLen; omega) W
      have hnx := Lib.hid (show (((zs.take k).map lowerS ++ zs.drop k).map Value.string).set k (.string (lowerS zs[k])) = ((zs.take (k + 1)).map lowerS ++ zs.drop (k + 1)).map Value.string by rw [← List.map_set, map_set_at lowerS zs k c1])
      generalize lowerS zs[k] = lw at *
      generalize zs[k] = x at *
      clear hgg
      go_wp2_with (go_at_call 40; (with_reducible refine (dX _).mono ?_); rintro e w3 ⟨rfl, hb3⟩
                   have hown3 := hown.kept (grown_below hb3) (own_none _)
                   have hfz0 := hown3.frozenAt k
                   obtain ⟨o0, hco0⟩ : ∃ o, w3.cell? ⟨g, k, none⟩ = some o := ⟨_, (hb3.cell (p := ⟨g, k, none⟩) hgl).trans hc0⟩
                   replace hb3 := Lib.hid hb3
                   replace hown3 := Lib.hid hown3)
      go_roundw
      case rel =>
        refine ⟨k + 1, by omega, by go_num, ?_, ?_⟩
        · rw [← hnx.out]
          exact (hown3.out.stored k (.string lw)).1
        · exact (hb.trans (hb3.out.mono (by omega))).setCell (p := ⟨g, k, none⟩) hbg _
      case measure => simp [intOf]; omega
    · have hk : k = zs.length := by omega
      subst hk
      go_wp2
      go_ret
      refine ⟨_, rfl, ?_, ?_⟩ <;> (try rw [hg])
      · rw [hT.out, List.length_map]
        simpa using hown
      · exact hb
/-- The table of hop by hop names holds them. -/
structure HEnv (w : World) : Prop extends SEnv w where
  hops : ∀ i x, hopN[i]? = some x → w.cell? ⟨0, i, none⟩ = some (.string x)
theorem HEnv.below {w w' : World} (h : HEnv w) (hb : Below w.heap.size w w') : HEnv w' := by
  refine ⟨h.toSEnv.below hb, fun i x hx => ?_⟩
  have h1 := h.hops i x hx
  exact (hb.cell (p := ⟨0, i, none⟩) (World.block_lt_of_cell? w _ h1)).trans h1
theorem HEnv.strs {w : World} (h : HEnv w) : Strs w (.slice (some ⟨0, 0, none⟩) 9 9) hopN :=
  ⟨_, 9, rfl, Nat.le_refl _, fun _ => ⟨_, 0, rfl, World.block_lt_of_cell? w _ (h.hops 0 _ rfl), fun j x hj => by rw [Nat.zero_add]; exact h.hops j x hj⟩⟩
theorem hopN_bd : ∀ t ∈ hopN, t.size ≤ 1000000 := by decide +kernel
theorem drop_mem {xs : List Fld} {ts : List ByteArray} {x : Fld} (h : x ∈ dropF xs ts) : x ∈ xs := (List.mem_filter.1 h).1
theorem drop_le (xs : List Fld) (ts : List ByteArray) : (dropF xs ts).length ≤ xs.length := List.length_filter_le _ _
set_option maxRecDepth 100000 in
set_option maxHeartbeats 4000000 in
theorem hops_any (xs : List Fld) (v : Value) (w : World) (he : HEnv w) (hv : FldsB w v xs) (hf : Flds w v xs) (hN : xs.length ≤ 100) (hS : ∀ x ∈ xs, x.1.size ≤ 1000 ∧ x.2.size ≤ 1000) :
    Calls Tryz.prog 11 #[v] w fun e w' => ∃ u, e = .returned u ∧ OwnF 41 w' w.heap.size u (hopsP xs) ∧ Below w.heap.size w w' := by
  have dT := tokens_any xs connS (by decide) v w hf hN hS
  obtain ⟨hb1, hb2⟩ := tok_bd xs connS 1000 (fun x hx => (hS x hx).2)
  have hb1' : (tokF xs connS).length ≤ 1000000 := by omega
  have hNm := Lib.hid (show (tokF xs connS).filter (fun x => !keptB x) = namedP xs from rfl)
  have hnl : (namedP xs).length ≤ 1000000 := by
    have := List.length_filter_le (fun x => !keptB x) (tokF xs connS)
    rw [hNm.out] at this
    omega
  have hnb : ∀ t ∈ namedP xs, t.size ≤ 1000000 := fun t ht => by
    have := hb2 t (List.mem_filter.1 (hNm.out ▸ ht)).1
    omega
  have hX : ∀ x ∈ xs, x.1.size ≤ 1000000 := fun x hx => by have := (hS x hx).1; omega
  have hP := Lib.hid (show hopsP xs = dropF (dropF xs hopN) (namedP xs) from rfl)
  have dK := fun u W h => delK_any (tokF xs connS) w.heap.size u W h hb1'
  rw [hNm.out] at dK
  have dD1 := fun W h1 h2 => drop_any xs hX hopN hopN_bd v (.slice (some ⟨0, 0, none⟩) 9 9) W h1 h2 (by omega) (by decide)
  have hdl := drop_le xs hopN
  have dD2 := fun u nu W h1 h2 => drop_any (dropF xs hopN) (fun x hx => hX x (drop_mem hx)) (namedP xs) hnb u nu W h1 h2 (by omega) hnl
  clear hb1 hb2
  generalize tokF xs connS = T at *
  unfold connS at dT
  generalize namedP xs = NM at *
  generalize hopsP xs = R at *
  generalize dropF xs hopN = D at *
  go_enter Tryz.func11, Tryz.ntmps11
  go_wp2_with (first
    | (go_at_call 25; (with_reducible refine dT.mono ?_); rintro e w1 ⟨u1, rfl, ho1, hb1⟩)
    | (go_at_call 24; go_loud ((with_reducible refine (dK _ _ ho1 hb1.size).mono ?_); rintro e w2 ⟨u2, rfl, ho2, hb2⟩; have hbB := hb1.trans hb2; have hH2 := (he.below hbB).strs; have hv2 := hv.below hbB))
    | (go_at_call 27; first
        | ((with_reducible refine (dD1 _ hv2 hH2).mono ?_); rintro e w3 ⟨u3, rfl, ho3, hb3⟩)
        | ((with_reducible refine (dD2 _ _ _ ho3.fldsB (ho2.strs.below hb3)).mono ?_); rintro e w4 ⟨u4, rfl, ho4, hb4⟩)))
  go_ret
  rw [← hP.out] at ho4
  have hz2 := hbB.size
  have hz3 := hb3.size
  exact ⟨_, rfl, own_lower ho4 (by omega), hbB.trans ((hb3.trans (hb4.mono hz3)).mono hz2)⟩
end Go.Proofs.YthedoophopilgaaGreatDoor.Rw
