/- The program's check and the document's Check (printed by genB.py). -/
import Derived.Test.YtiamkhhnnlgemaaDoorRiP
namespace Go.Proofs.YtiamkhhnnlgemaaDoor.Ri
open Go.RowKit Go.Maps Go.Proofs.YtiamkhhnnlgemaaDoor.Sip
set_option linter.unusedVariables false
def OkR (xs : List Ent) : Prop := xs.length ≤ 1024 ∧ Good xs
noncomputable def okR (xs : List Ent) : Bool := @decide (OkR xs) (Classical.propDecidable _)
noncomputable def errR (xs : List Ent) : Int := if okR xs = true then 0 else 1
theorem errR_0 {xs : List Ent} (h : OkR xs) : errR xs = 0 := by unfold errR okR; rw [if_pos]; exact @decide_eq_true _ (Classical.propDecidable _) h
theorem errR_1 {xs : List Ent} (h : ¬ OkR xs) : errR xs = 1 := by unfold errR okR; rw [if_neg]; rw [@decide_eq_false _ (Classical.propDecidable _) h]; decide
set_option maxRecDepth 100000 in
set_option maxHeartbeats 4000000 in
theorem refCheck_any (xs : List Ent) (v : Value) (w : World) (hv : Ents w v xs) (c2 : xs.length ≤ 1024) :
    Calls Tryd.prog 12 #[v] w fun e w' => e = .returned (.int .i64 (errR xs)) ∧ Below w.heap.size w w' := by
  obtain ⟨A, c, rfl, hc, hr⟩ := hv
  have hb0 : Below w.heap.size w w := Below.refl _ _
  have hbad := Lib.hid (fun (k : Nat) (h : ¬ Good (xs.take k)) => errR_1 (xs := xs) (fun h' => h (h'.2.take k)))
  have hok := Lib.hid (fun (h : Good xs) => errR_0 (xs := xs) ⟨c2, h⟩)
  have c4 : ¬ (1024 : Int) < (xs.length : Int) := by omega
  go_enter Tryd.func12, Tryd.ntmps12
  go_wp2
  generalize hg : w.heap.size = g at *
  clear c4
  go_loopw [12] (fun i wr => ∃ (k : Nat), k ≤ xs.length ∧ i = .int .i64 k ∧ Hid (Good (xs.take k)) ∧ Below g w wr) (fun i _ => xs.length - (intOf i).toNat)
  case atStart => exact ⟨0, Nat.zero_le _, rfl, Lib.hid good_nil, hb0⟩
  case round =>
    obtain ⟨k, hk, rfl, hgd, hb⟩ := hrel
    have hgw : g ≤ wr.heap.size := by have := hb.size; omega
    by_cases c5 : k < xs.length
    · obtain ⟨b, o, rfl, hlt, hx⟩ := hr (by omega)
      have hx0 := hx k xs[k] (by simp [c5])
      have hc0 := (hb.cell (p := ⟨b, o + k * 2, none⟩) (by omega)).trans hx0.1
      have hc1 := (hb.cell (p := ⟨b, o + k * 2 + 1, none⟩) (by omega)).trans hx0.2
      have hgs := Lib.hid (good_succ (xs := xs) c5)
      generalize hxk : xs[k] = x at *
      clear hx0 hxk
      go_wp2
      have hn0 := (new_two wr (.string (mk x.1)) (.int .i64 x.2) 46).1
      have hn9 := (new_two wr (.string (mk x.1)) (.int .i64 x.2) 46).2
      have hz0 := Nat.lt_of_lt_of_eq (Nat.lt_succ_self wr.heap.size) (World.size_alloc wr (Obj.cells #[.string (mk x.1), .int .i64 x.2] 46)).symm
      have hbi := hb.alloc hgw (Obj.cells #[.string (mk x.1), .int .i64 x.2] 46)
      generalize wr.alloc (Obj.cells #[.string (mk x.1), .int .i64 x.2] 46) = wi at *
      have hzg : g ≤ wi.heap.size := by omega
      clear hc0 hc1 hb
      generalize wr.heap.size = q at *
      have hin0 : Below wi.heap.size wi wi := Below.refl _ _
      go_loopw [21] (fun i wr => ∃ (j : Nat), j ≤ k ∧ i = .int .i64 j ∧ Hid (x.1 ∉ (xs.take j).map Prod.fst) ∧ Below wi.heap.size wi wr) (fun i _ => k - (intOf i).toNat)
      case atStart => exact ⟨0, Nat.zero_le _, rfl, Lib.hid (by simp), hin0⟩
      case round =>
        obtain ⟨j, hj, rfl, hnm, hin⟩ := hrel
        have hwg : wi.heap.size ≤ wr.heap.size := hin.size
        have hq1 : q < wr.heap.size := by omega
        have hq2 : q ≠ wr.heap.size := by omega
        have hgw : g ≤ wr.heap.size := by omega
        have hbt := hbi.trans (hin.mono hzg)
        by_cases d1 : j < k
        · have hy0 := hx j xs[j] (by simp)
          have hy1 := (hbt.cell (p := ⟨b, o + j * 2, none⟩) (by omega)).trans hy0.1
          have hy2 := (hbt.cell (p := ⟨b, o + j * 2 + 1, none⟩) (by omega)).trans hy0.2
          have hn1 := (hin.cell (p := ⟨q, 0, none⟩) (by omega)).trans hn0
          have hsucc := Lib.hid (show (xs.take (j + 1)).map Prod.fst = (xs.take j).map Prod.fst ++ [xs[j].1] by rw [List.take_succ_eq_append_getElem (by omega), List.map_append]; rfl)
          have hmem := Lib.hid (show xs[j].1 ∈ (xs.take k).map Prod.fst from List.mem_map.2 ⟨xs[j], List.mem_take_iff_getElem.2 ⟨j, by omega, rfl⟩, rfl⟩)
          generalize xs[j] = y at *
          clear hy0
          by_cases d2 : y.1 = x.1
          · have hX := Lib.hid (hbad.out (k + 1) (fun h => (hgs.out.1 h).2.2 (d2 ▸ hmem.out)))
            rw [d2] at hy1
            go_wp2
            go_ret
            refine ⟨by rw [hX.out]; rfl, ?_⟩
            (try rw [hg]); exact hbt.alloc hgw _
          · have d3 : ((mk y.1).toList == (mk x.1).toList) = false := by rw [mk_eq, decide_eq_false d2]
            go_wp2
            go_roundw
            case rel => exact ⟨j + 1, by omega, by go_num, Lib.hid (by rw [hsucc.out, List.mem_append]; rintro (h | h); exact hnm.out h; exact d2 (List.mem_singleton.1 h).symm), hin.alloc hwg _⟩
            case measure => simp [intOf]; omega
        · have hj2 : j = k := by omega
          have hn1 := (hin.cell (p := ⟨q, 1, none⟩) (by omega)).trans hn9
          by_cases c6 : 1 ≤ x.2 ∧ x.2 ≤ 65535
          · obtain ⟨c7, c8⟩ := c6
            have c9 : ¬ x.2 < 1 := by omega
            have c10 : ¬ 65535 < x.2 := by omega
            have hgn := Lib.hid (hgs.out.2 ⟨hgd.out, ⟨c7, c8⟩, hj2 ▸ hnm.out⟩)
            subst hj2
            go_wp2
            go_roundw
            case rel => exact ⟨j + 1, by omega, by go_num, hgn, hbt⟩
            case measure => simp [intOf]; omega
          · have c9 : x.2 < 1 ∨ 65535 < x.2 := by omega
            have hX := Lib.hid (hbad.out (k + 1) (fun h => c6 (hgs.out.1 h).2.1))
            subst hj2
            rcases c9 with c9 | c9
            · go_wp2
              go_ret
              refine ⟨by rw [hX.out]; rfl, ?_⟩
              (try rw [hg]); exact hbt
            · have c10 : ¬ x.2 < 1 := by omega
              go_wp2
              go_ret
              refine ⟨by rw [hX.out]; rfl, ?_⟩
              (try rw [hg]); exact hbt
    · have hk : k = xs.length := by omega
      have hX := Lib.hid (hok.out (by have h1 := hgd.out; rw [List.take_of_length_le (by omega)] at h1; exact h1))
      subst hk
      go_wp2
      go_ret
      refine ⟨by rw [hX.out]; rfl, ?_⟩
      (try rw [hg]); exact hb
/-- How many names. -/
def szN (xs : List Ent) : Int := Maps.size (seenOf xs)
theorem seen_tidy (xs : List Ent) : Tidy (seenOf xs) := by
  unfold seenOf
  exact tidy_setOf _ _ (fun y hy => by obtain ⟨_, _, rfl⟩ := List.mem_map.1 hy; trivial)
theorem szN_snoc (xs : List Ent) (x : Ent) : szN (xs ++ [x]) = if x.1 ∈ xs.map Prod.fst then szN xs else szN xs + 1 := by
  unfold szN
  rw [seen_snoc, size_put (seen_tidy xs), seen_has]
  by_cases h : x.1 ∈ xs.map Prod.fst <;> simp [h]
theorem szN_all (xs : List Ent) : ∀ k, k ≤ xs.length → 0 ≤ szN (xs.take k) ∧ szN (xs.take k) ≤ k ∧ (szN (xs.take k) = k ↔ ((xs.take k).map Prod.fst).Nodup)
  | 0, _ => ⟨by simp [szN, seen_nil, Maps.size], by simp [szN, seen_nil, Maps.size], by simp [szN, seen_nil, Maps.size]⟩
  | k + 1, h => by
    obtain ⟨i1, i2, i3⟩ := szN_all xs k (by omega)
    rw [List.take_succ_eq_append_getElem (by omega), szN_snoc]
    by_cases c : xs[k].1 ∈ (xs.take k).map Prod.fst
    · rw [if_pos c]
      refine ⟨i1, by omega, ⟨fun e => by omega, fun hn => ?_⟩⟩
      rw [List.map_append, List.nodup_append] at hn
      exact absurd rfl (hn.2.2 _ c _ (by simp))
    · rw [if_neg c]
      refine ⟨by omega, by omega, ⟨fun e => ?_, fun hn => ?_⟩⟩
      · rw [List.map_append, List.nodup_append]
        refine ⟨i3.1 (by omega), by simp, ?_⟩
        intro a ha b hb e
        rw [List.map_singleton, List.mem_singleton] at hb
        subst hb; subst e
        exact c ha
      · rw [List.map_append, List.nodup_append] at hn
        have := i3.2 hn.1
        omega
def Wts (xs : List Ent) : Prop := ∀ x ∈ xs, 1 ≤ x.2 ∧ x.2 ≤ 65535
theorem wts_succ {xs : List Ent} {k : Nat} (hk : k < xs.length) : Wts (xs.take (k + 1)) ↔ Wts (xs.take k) ∧ 1 ≤ xs[k].2 ∧ xs[k].2 ≤ 65535 := by
  unfold Wts
  rw [List.take_succ_eq_append_getElem hk]
  constructor
  · intro h
    exact ⟨fun x hx => h x (List.mem_append_left _ hx), h _ (List.mem_append_right _ (by simp))⟩
  · rintro ⟨h1, h2⟩ x hx
    rcases List.mem_append.1 hx with h | h
    · exact h1 x h
    · rw [List.mem_singleton.1 h]; exact h2
theorem run_makeMapN (n : Nat) (w : World) : (Instr.makeMap 76 (some (.int .i64 (n : Int)))).run Tryd.prog w = .ok (.map (some w.heap.size)) (w.alloc (.map #[] 0)) := by
  simp [Instr.makeMap, run_underlying Tryd.underlying76, asInt, asIntOf, Result.andThen]
set_option maxRecDepth 100000 in
set_option maxHeartbeats 4000000 in
theorem check_any (xs : List Ent) (v : Value) (w : World) (hv : Ents w v xs) (c2 : xs.length ≤ 1024) (hT : ∀ x ∈ xs, x.1.length ≤ 1000000) :
    Calls Tryd.prog 22 #[v] w fun e w' => e = .returned (.int .i64 (errR xs)) ∧ Below w.heap.size w w' := by
  have hmm := run_makeMapN
  obtain ⟨A, c, rfl, hc, hr⟩ := hv
  have hb0 : Below w.heap.size w w := Below.refl _ _
  have hbad := Lib.hid (fun (k : Nat) (h : ¬ Wts (xs.take k)) => errR_1 (xs := xs) (fun h' => h (fun x hx => h'.2.1 x (List.mem_of_mem_take hx))))
  have hdup := Lib.hid (fun (h : ¬ (xs.map Prod.fst).Nodup) => errR_1 (xs := xs) (fun h' => h h'.2.2))
  have hok := Lib.hid (fun (h : Wts xs) (h2 : (xs.map Prod.fst).Nodup) => errR_0 (xs := xs) ⟨c2, h, h2⟩)
  have c4 : ¬ (1024 : Int) < (xs.length : Int) := by omega
  go_enter Tryd.func22, Tryd.ntmps22
  go_wp2
  generalize hg : w.heap.size = g at *
  have hmade : (w.alloc (Obj.map #[] 0)).ownsMap Tryd.prog 9 (unitElem (H := Unit)) g 0 (seenOf []) := by rw [← hg]; exact World.ownsMap_made _ _ _ _
  have hb1 := hb0.alloc (by omega) (Obj.map #[] 0)
  have hg1 : g + 1 ≤ (w.alloc (Obj.map #[] 0)).heap.size := by simp; omega
  generalize w.alloc (Obj.map #[] 0) = w0 at *
  go_loopw [11] (fun i wr => ∃ (k : Nat), k ≤ xs.length ∧ i = .int .i64 k ∧ Hid (Wts (xs.take k)) ∧ wr.ownsMap Tryd.prog 9 (unitElem (H := Unit)) g k (seenOf (xs.take k)) ∧ Below g w wr ∧ g + 1 ≤ wr.heap.size) (fun i _ => xs.length - (intOf i).toNat)
  case atStart => exact ⟨0, Nat.zero_le _, rfl, Lib.hid (by unfold Wts; simp), hmade, hb1, hg1⟩
  case round =>
    obtain ⟨k, hk, rfl, hgd, hown, hb, hgw⟩ := hrel
    by_cases c5 : k < xs.length
    · obtain ⟨b, o, rfl, hlt, hx⟩ := hr (by omega)
      have hx0 := hx k xs[k] (by simp [c5])
      have hc0 := (hb.cell (p := ⟨b, o + k * 2, none⟩) (by omega)).trans hx0.1
      have hc1 := (hb.cell (p := ⟨b, o + k * 2 + 1, none⟩) (by omega)).trans hx0.2
      have hgs := Lib.hid (wts_succ (xs := xs) c5)
      have hsn := Lib.hid (show seenOf (xs.take (k + 1)) = (seenOf (xs.take k)).put (Lit.string xs[k].1) (.agg []) by rw [List.take_succ_eq_append_getElem c5, seen_snoc])
      have hxl := hT xs[k] (by simp)
      have hkey : keyOf Tryd.prog 9 (.string (mk xs[k].1)) = some (.string xs[k].1)   := Go.WideMaps.keyOf_string_mk Tryd.underlying9 (by rw [mk_size]; unfold maxLen; omega)
      generalize xs[k] = x at *
      clear hx0
      by_cases c7 : 1 ≤ x.2 ∧ x.2 ≤ 65535
      · obtain ⟨c8, c9⟩ := c7
        have c10 : ¬ x.2 < 1 := by omega
        have c11 : ¬ 65535 < x.2 := by omega
        go_wp2_with (first
          | (at_mapUpdate; refine wpList_mapUpdate_own _ rfl _ _ _ 76 rfl 9 77 (string_keyed Tryd.underlying9) Tryd.underlying76 (unitElem (H := Unit)) g k _ rfl (hown.alloc _) (by unfold maxLen; omega) _ _ _ rfl rfl hkey _ [] unitElem_mk ?_; intro w1 hown1 hgrow1))
        have hgn := Lib.hid (hgs.out.2 ⟨hgd.out, c8, c9⟩)
        have hgz := hgrow1.size
        simp at hgz
        go_roundw
        case rel => exact ⟨k + 1, by omega, by go_num, hgn, by rw [hsn.out]; exact hown1, grow_low (hb.alloc (by omega) _) (by simp; omega) hgrow1 (fun b e => by cases e; exact Nat.le_refl _), by omega⟩
        case measure => simp [intOf]; omega
      · have c10 : x.2 < 1 ∨ 65535 < x.2 := by omega
        have hX := Lib.hid (hbad.out (k + 1) (fun h => c7 (hgs.out.1 h).2))
        rcases c10 with c10 | c10
        · go_wp2
          go_ret
          refine ⟨by rw [hX.out]; rfl, ?_⟩
          (try rw [hg])
          exact hb.alloc (by omega) _
        · have c11 : ¬ x.2 < 1 := by omega
          go_wp2
          go_ret
          refine ⟨by rw [hX.out]; rfl, ?_⟩
          (try rw [hg])
          exact hb.alloc (by omega) _
    · have hk : k = xs.length := by omega
      obtain ⟨i1, i2, i3⟩ := szN_all xs k (by omega)
      have hlen := hown.len (t := 76) Tryd.underlying76
      subst hk
      rw [List.take_of_length_le (Nat.le_refl _)] at *
      have hlen2 : ∀ ty, (Builtin.len_ #[76] ty #[.map (some g)]).run Tryd.prog wr = .ok (.int .i64 (szN xs)) wr := hlen
      clear hlen
      by_cases hd : (xs.map Prod.fst).Nodup
      · have hX := Lib.hid (hok.out hgd.out hd)
        have hz : ¬ szN xs < (xs.length : Int) := by have := i3.2 hd; omega
        generalize szN xs = z at *
        clear i1 i2 i3 hd
        go_wp2
        go_ret
        refine ⟨by rw [hX.out]; rfl, ?_⟩
        (try rw [hg]); exact hb
      · have hX := Lib.hid (hdup.out hd)
        have hz : szN xs < (xs.length : Int) := by have h : szN xs ≠ (xs.length : Int) := fun e => hd (i3.1 e); omega
        generalize szN xs = z at *
        clear i1 i2 i3 hd
        go_wp2
        go_ret
        refine ⟨by rw [hX.out]; rfl, ?_⟩
        (try rw [hg]); exact hb
end Go.Proofs.YtiamkhhnnlgemaaDoor.Ri
