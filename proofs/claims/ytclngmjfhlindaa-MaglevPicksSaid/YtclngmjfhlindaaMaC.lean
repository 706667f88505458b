/- May a table be made? The program's check and the document's. -/
import Derived.Test.YtclngmjfhlindaaMaB
import Derived.Maps.OwnSet
import Derived.StringKeys
namespace Go.Proofs.Ytclngmjfhlindaa.Ma
open Go.RowKit Go.Maps Go.Proofs.Ytclngmjfhlindaa.Sip
set_option linter.unusedVariables false
def Good (xs : List Ent) : Prop := (∀ x ∈ xs, 1 ≤ x.2 ∧ x.2 ≤ 65535) ∧ (xs.map Prod.fst).Nodup
theorem good_nil : Good [] := ⟨by simp, by simp⟩
theorem good_succ {xs : List Ent} {k : Nat} (hk : k < xs.length) : Good (xs.take (k + 1)) ↔ Good (xs.take k) ∧ (1 ≤ xs[k].2 ∧ xs[k].2 ≤ 65535) ∧ xs[k].1 ∉ (xs.take k).map Prod.fst := by
  rw [List.take_succ_eq_append_getElem hk]
  unfold Good
  rw [List.map_append, List.nodup_append]
  constructor
  · rintro ⟨h1, h2, h3, h4⟩
    refine ⟨⟨fun x hx => h1 x (List.mem_append_left _ hx), h2⟩, h1 _ (List.mem_append_right _ (List.mem_singleton.2 rfl)), fun hm => h4 _ hm xs[k].1 (by simp) rfl⟩
  · rintro ⟨⟨h1, h2⟩, h3, h4⟩
    refine ⟨fun x hx => ?_, h2, by simp, fun a ha b hb => ?_⟩
    · rcases List.mem_append.1 hx with h | h
      · exact h1 x h
      · rw [List.mem_singleton.1 h]; exact h3
    · simp only [List.map_cons, List.map_nil, List.mem_singleton] at hb
      rintro rfl
      rw [hb] at ha
      exact h4 ha
theorem Good.take {xs : List Ent} (h : Good xs) (k : Nat) : Good (xs.take k) :=
  ⟨fun x hx => h.1 x (List.mem_of_mem_take hx), by rw [List.map_take]; exact h.2.sublist (List.take_sublist _ _)⟩
def OkM (xs : List Ent) (m : Int) : Prop := IsP m ∧ 100 * (xs.length : Int) ≤ m ∧ xs.length ≤ 1024 ∧ Good xs
noncomputable def okM (xs : List Ent) (m : Int) : Bool := @decide (OkM xs m) (Classical.propDecidable _)
noncomputable def errM (xs : List Ent) (m : Int) : Int := if okM xs m = true then 0 else 1
theorem okM_true {xs : List Ent} {m : Int} (h : OkM xs m) : okM xs m = true := by unfold okM; exact @decide_eq_true _ (Classical.propDecidable _) h
theorem okM_false {xs : List Ent} {m : Int} (h : ¬ OkM xs m) : okM xs m = false := by unfold okM; exact @decide_eq_false _ (Classical.propDecidable _) h
theorem okM_iff {xs : List Ent} {m : Int} : okM xs m = true ↔ OkM xs m := by
  constructor
  · intro h
    unfold okM at h
    exact @of_decide_eq_true _ (Classical.propDecidable _) h
  · exact okM_true
theorem errM_0 {xs : List Ent} {m : Int} (h : OkM xs m) : errM xs m = 0 := by unfold errM; rw [if_pos (okM_true h)]
theorem errM_1 {xs : List Ent} {m : Int} (h : ¬ OkM xs m) : errM xs m = 1 := by unfold errM; rw [if_neg]; rw [okM_false h]; decide
theorem isP_iff {n : Int} : isP n = true ↔ IsP n := by
  constructor
  · intro h
    unfold isP at h
    exact @of_decide_eq_true _ (Classical.propDecidable _) h
  · exact isP_true
set_option maxRecDepth 100000 in
set_option maxHeartbeats 4000000 in
theorem refCheck_any (xs : List Ent) (m : Int) (v : Value) (w : World) (hv : Ents w v xs) (hN : xs.length ≤ 1000000000000) :
    Calls Try.prog 12 #[v, .int .i64 m] w fun e w' => e = .returned (.int .i64 (errM xs m)) ∧ Below w.heap.size w w' := by
  obtain ⟨A, c, rfl, hc, hr⟩ := hv
  have hb0 : Below w.heap.size w w := Below.refl _ _
  by_cases hP : isP m = true
  case neg =>
    have hX := Lib.hid (errM_1 (xs := xs) (m := m) (fun h => hP (isP_true h.1)))
    rw [Bool.not_eq_true] at hP
    go_enter Try.func12, Try.ntmps12
    go_wp2_with (go_at_call 33; refine (refIs_any m _).mono ?_; rintro e w1 ⟨rfl, hw⟩; rw [hw]; clear hw w1)
    go_ret
    exact ⟨by rw [hX.out]; rfl, hb0⟩
  by_cases c1 : 100 * (xs.length : Int) ≤ m
  case neg =>
    have hX := Lib.hid (errM_1 (xs := xs) (m := m) (fun h => c1 h.2.1))
    go_enter Try.func12, Try.ntmps12
    go_wp2_with (go_at_call 33; refine (refIs_any m _).mono ?_; rintro e w1 ⟨rfl, hw⟩; rw [hw]; clear hw w1)
    go_ret
    exact ⟨by rw [hX.out]; rfl, hb0⟩
  by_cases c2 : xs.length ≤ 1024
  case neg =>
    have hX := Lib.hid (errM_1 (xs := xs) (m := m) (fun h => c2 h.2.2.1))
    go_enter Try.func12, Try.ntmps12
    go_wp2_with (go_at_call 33; refine (refIs_any m _).mono ?_; rintro e w1 ⟨rfl, hw⟩; rw [hw]; clear hw w1)
    go_ret
    exact ⟨by rw [hX.out]; rfl, hb0⟩
  have hbad := Lib.hid (fun (k : Nat) (h : ¬ Good (xs.take k)) => errM_1 (xs := xs) (m := m) (fun h' => h (h'.2.2.2.take k)))
  have hok := Lib.hid (fun (h : Good xs) => errM_0 (xs := xs) (m := m) ⟨isP_iff.1 hP, c1, c2, h⟩)
  have c3 : ¬ m < 100 * (xs.length : Int) := by omega
  have c4 : ¬ (1024 : Int) < (xs.length : Int) := by omega
  go_enter Try.func12, Try.ntmps12
  go_wp2_with (go_at_call 33; refine (refIs_any m _).mono ?_; rintro e w1 ⟨rfl, hw⟩; rw [hw]; clear hw w1)
  generalize hg : w.heap.size = g at *
  clear c3 c4
  go_loopw [26] (fun i wr => ∃ (k : Nat), k ≤ xs.length ∧ i = .int .i64 k ∧ Hid (Good (xs.take k)) ∧ Below g w wr) (fun i _ => xs.length - (intOf i).toNat)
  case atStart => exact ⟨0, Nat.zero_le _, rfl, Lib.hid good_nil, hb0⟩
  case round =>
    obtain ⟨k, hk, rfl, hgd, hb⟩ := hrel
    have hgw : g ≤ wr.heap.size := by have := hb.size; omega
    by_cases c5 : k < xs.length
    · obtain ⟨b, o, rfl, hlt, hx⟩ := hr (by omega)
      have hx0 := hx k xs[k] (by simp [c5])
      have hc0 := (hb.cell (p := ⟨b, o + k * 2, none⟩) (by omega)).trans hx0.1
      have hc1 := (hb.cell (p := ⟨b, o + k * 2 + 1, none⟩) (by omega)).trans hx0.2
      have hgs := Lib.hid (good_succ (xs := xs) c5)
      generalize hxk : xs[k] = x at *
      clear hx0
      by_cases c6 : 1 ≤ x.2 ∧ x.2 ≤ 65535
      · obtain ⟨c7, c8⟩ := c6
        have c9 : ¬ x.2 < 1 := by omega
        have c10 : ¬ 65535 < x.2 := by omega
        clear hxk
        go_wp2
        have hn0 := (new_two wr (.string (mk x.1)) (.int .i64 x.2) 42).1
        have hz0 := Nat.lt_of_lt_of_eq (Nat.lt_succ_self wr.heap.size) (World.size_alloc wr (Obj.cells #[.string (mk x.1), .int .i64 x.2] 42)).symm
        have hbi := hb.alloc hgw (Obj.cells #[.string (mk x.1), .int .i64 x.2] 42)
        generalize wr.alloc (Obj.cells #[.string (mk x.1), .int .i64 x.2] 42) = wi at *
        have hzg : g ≤ wi.heap.size := by omega
        clear hc0 hc1 hb
        generalize wr.heap.size = q at *
        have hin0 : Below wi.heap.size wi wi := Below.refl _ _
        go_loopw [43] (fun i wr => ∃ (j : Nat), j ≤ k ∧ i = .int .i64 j ∧ Hid (x.1 ∉ (xs.take j).map Prod.fst) ∧ Below wi.heap.size wi wr) (fun i _ => k - (intOf i).toNat)
        case atStart => exact ⟨0, Nat.zero_le _, rfl, Lib.hid (by simp), hin0⟩
        case round =>
          obtain ⟨j, hj, rfl, hnm, hin⟩ := hrel
          have hwg : wi.heap.size ≤ wr.heap.size := hin.size
          have hq1 : q < wr.heap.size := by omega
          have hq2 : q ≠ wr.heap.size := by omega
          have hgw : g ≤ wr.heap.size := by omega
          have hbt := hbi.trans (hin.mono hzg)
          by_cases d1 : j < k
          · have hy0 := hx j xs[j] (by simp)
            have hy1 := (hbt.cell (p := ⟨b, o + j * 2, none⟩) (by omega)).trans hy0.1
            have hy2 := (hbt.cell (p := ⟨b, o + j * 2 + 1, none⟩) (by omega)).trans hy0.2
            have hn1 := (hin.cell (p := ⟨q, 0, none⟩) (by omega)).trans hn0
            have hsucc := Lib.hid (show (xs.take (j + 1)).map Prod.fst = (xs.take j).map Prod.fst ++ [xs[j].1] by rw [List.take_succ_eq_append_getElem (by omega), List.map_append]; rfl)
            have hmem := Lib.hid (show xs[j].1 ∈ (xs.take k).map Prod.fst from List.mem_map.2 ⟨xs[j], List.mem_take_iff_getElem.2 ⟨j, by omega, rfl⟩, rfl⟩)
            generalize xs[j] = y at *
            clear hy0
            by_cases d2 : y.1 = x.1
            · have hX := Lib.hid (hbad.out (k + 1) (fun h => (hgs.out.1 h).2.2 (d2 ▸ hmem.out)))
              rw [d2] at hy1
              go_wp2
              go_ret
              refine ⟨by rw [hX.out]; rfl, ?_⟩
              (try rw [hg]); exact hbt.alloc hgw _
            · have d3 : ((mk y.1).toList == (mk x.1).toList) = false := by rw [mk_eq, decide_eq_false d2]
              go_wp2
              go_roundw
              case rel => exact ⟨j + 1, by omega, by go_num, Lib.hid (by rw [hsucc.out, List.mem_append]; rintro (h | h); exact hnm.out h; exact d2 (List.mem_singleton.1 h).symm), hin.alloc hwg _⟩
              case measure => simp [intOf]; omega
          · have hj2 : j = k := by omega
            have hgn := Lib.hid (hgs.out.2 ⟨hgd.out, ⟨c7, c8⟩, hj2 ▸ hnm.out⟩)
            subst hj2
            go_wp2
            go_roundw
            case rel => exact ⟨j + 1, by omega, by go_num, hgn, hbt⟩
            case measure => simp [intOf]; omega
      · have c9 : x.2 < 1 ∨ 65535 < x.2 := by omega
        have hX := Lib.hid (hbad.out (k + 1) (fun h => c6 (hgs.out.1 h).2.1))
        clear hxk
        rcases c9 with c9 | c9
        · go_wp2
          go_ret
          refine ⟨by rw [hX.out]; rfl, ?_⟩
          (try rw [hg]); exact hb.alloc hgw _
        · have c10 : ¬ x.2 < 1 := by omega
          go_wp2
          go_ret
          refine ⟨by rw [hX.out]; rfl, ?_⟩
          (try rw [hg]); exact hb.alloc hgw _
    · have hk : k = xs.length := by omega
      have hX := Lib.hid (hok.out (by have h1 := hgd.out; rw [List.take_of_length_le (by omega)] at h1; exact h1))
      subst hk
      go_wp2
      go_ret
      refine ⟨by rw [hX.out]; rfl, ?_⟩
      (try rw [hg]); exact hb
def seenOf (xs : List Ent) : DataW Unit := setOf (.agg []) (xs.map (fun x => Lit.string x.1))
theorem seen_nil : seenOf [] = .map [] := rfl
theorem seen_snoc (xs : List Ent) (x : Ent) : seenOf (xs ++ [x]) = (seenOf xs).put (Lit.string x.1) (.agg []) := by
  unfold seenOf; rw [List.map_append]; exact setOf_snoc _ _ _
theorem seen_has (xs : List Ent) (l : List UInt8) : Maps.has (seenOf xs) (Lit.string l) = decide (l ∈ xs.map Prod.fst) := by
  unfold seenOf
  rw [has_setOf _ _ _ (fun y hy => by obtain ⟨_, _, rfl⟩ := List.mem_map.1 hy; trivial), List.any_map]
  rw [Bool.eq_iff_iff, List.any_eq_true, decide_eq_true_iff, List.mem_map]
  constructor
  · rintro ⟨x, hx, h⟩
    refine ⟨x, hx, ?_⟩
    simpa [Function.comp, Lit.sameKey] using h
  · rintro ⟨x, hx, rfl⟩
    refine ⟨x, hx, ?_⟩
    simp [Function.comp, Lit.sameKey]
theorem zeroU (w : World) : (zeroValue 79).run Try.prog w = .ok (.agg #[]) w := by kernel_rfl
set_option maxRecDepth 100000 in
set_option maxHeartbeats 4000000 in
theorem check_any (xs : List Ent) (m : Int) (v : Value) (w : World) (hv : Ents w v xs) (hN : xs.length ≤ 1000000000000) (hT : ∀ x ∈ xs, x.1.length ≤ 1000000) :
    Calls Try.prog 25 #[v, .int .i64 m] w fun e w' => e = .returned (.int .i64 (errM xs m)) ∧ Below w.heap.size w w' := by
  have hmm := @run_makeMap Try.prog
  obtain ⟨A, c, rfl, hc, hr⟩ := hv
  have hb0 : Below w.heap.size w w := Below.refl _ _
  by_cases c2 : xs.length ≤ 1024
  case neg =>
    have hX := Lib.hid (errM_1 (xs := xs) (m := m) (fun h => c2 h.2.2.1))
    go_enter Try.func25, Try.ntmps25
    go_wp2
    go_ret
    exact ⟨by rw [hX.out]; rfl, hb0⟩
  by_cases hP : isP m = true
  case neg =>
    have hX := Lib.hid (errM_1 (xs := xs) (m := m) (fun h => hP (isP_true h.1)))
    rw [Bool.not_eq_true] at hP
    go_enter Try.func25, Try.ntmps25
    go_wp2_with (go_at_call 38; refine (is_any m _).mono ?_; rintro e w1 ⟨rfl, hw⟩; rw [hw]; clear hw w1)
    go_ret
    exact ⟨by rw [hX.out]; rfl, hb0⟩
  by_cases c1 : 100 * (xs.length : Int) ≤ m
  case neg =>
    have hX := Lib.hid (errM_1 (xs := xs) (m := m) (fun h => c1 h.2.1))
    go_enter Try.func25, Try.ntmps25
    go_wp2_with (go_at_call 38; refine (is_any m _).mono ?_; rintro e w1 ⟨rfl, hw⟩; rw [hw]; clear hw w1)
    go_ret
    exact ⟨by rw [hX.out]; rfl, hb0⟩
  have hbad := Lib.hid (fun (k : Nat) (h : ¬ Good (xs.take k)) => errM_1 (xs := xs) (m := m) (fun h' => h (h'.2.2.2.take k)))
  have hok := Lib.hid (fun (h : Good xs) => errM_0 (xs := xs) (m := m) ⟨isP_iff.1 hP, c1, c2, h⟩)
  have c3 : ¬ m < 100 * (xs.length : Int) := by omega
  have c4 : ¬ (1024 : Int) < (xs.length : Int) := by omega
  go_enter Try.func25, Try.ntmps25
  go_wp2_with (go_at_call 38; refine (is_any m _).mono ?_; rintro e w1 ⟨rfl, hw⟩; rw [hw]; clear hw w1)
  generalize hg : w.heap.size = g at *
  have hmade : (w.alloc (Obj.map #[] 0)).ownsMap Try.prog 9 (unitElem (H := Unit)) g 0 (seenOf []) := by rw [← hg]; exact World.ownsMap_made _ _ _ _
  have hb1 := hb0.alloc (by omega) (Obj.map #[] 0)
  have hg1 : g + 1 ≤ (w.alloc (Obj.map #[] 0)).heap.size := by simp; omega
  clear c3 c4
  generalize w.alloc (Obj.map #[] 0) = w0 at *
  go_loopw [28] (fun i wr => ∃ (k : Nat), k ≤ xs.length ∧ i = .int .i64 k ∧ Hid (Good (xs.take k)) ∧ wr.ownsMap Try.prog 9 (unitElem (H := Unit)) g k (seenOf (xs.take k)) ∧ Below g w wr ∧ g + 1 ≤ wr.heap.size) (fun i _ => xs.length - (intOf i).toNat)
  case atStart => exact ⟨0, Nat.zero_le _, rfl, Lib.hid good_nil, hmade, hb1, hg1⟩
  case round =>
    obtain ⟨k, hk, rfl, hgd, hown, hb, hgw⟩ := hrel
    by_cases c5 : k < xs.length
    · obtain ⟨b, o, rfl, hlt, hx⟩ := hr (by omega)
      have hx0 := hx k xs[k] (by simp [c5])
      have hc0 := (hb.cell (p := ⟨b, o + k * 2, none⟩) (by omega)).trans hx0.1
      have hc1 := (hb.cell (p := ⟨b, o + k * 2 + 1, none⟩) (by omega)).trans hx0.2
      have hgs := Lib.hid (good_succ (xs := xs) c5)
      have hsn := Lib.hid (show seenOf (xs.take (k + 1)) = (seenOf (xs.take k)).put (Lit.string xs[k].1) (.agg []) by rw [List.take_succ_eq_append_getElem c5, seen_snoc])
      have hxl := hT xs[k] (by simp)
      have hkey : keyOf Try.prog 9 (.string (mk xs[k].1)) = some (.string xs[k].1)   := Go.WideMaps.keyOf_string_mk Try.underlying9 (by rw [mk_size]; unfold maxLen; omega)
      have hhas := seen_has (xs.take k) xs[k].1
      generalize xs[k] = x at *
      clear hx0
      have hnew := Lib.hid (fun (h : ¬ x.1 ∈ (xs.take k).map Prod.fst) => hhas.trans (decide_eq_false h))
      have hold := Lib.hid (fun (h : x.1 ∈ (xs.take k).map Prod.fst) => hhas.trans (decide_eq_true h))
      clear hhas
      by_cases c6 : x.1 ∈ (xs.take k).map Prod.fst
      · have hX := Lib.hid (hbad.out (k + 1) (fun h => (hgs.out.1 h).2.2 c6))
        have hh := hold.out c6
        clear c6
        go_wp2_with (first
          | (at_lookup; refine wpList_lookup_own_unit _ rfl _ _ 78 rfl 9 79 (string_keyed Try.underlying9) Try.underlying78 (zeroU _) g k _ rfl (hown.alloc _) _ _ rfl hkey ?_; rw [hh]))
        go_ret
        refine ⟨by rw [hX.out]; rfl, ?_⟩
        (try rw [hg])
        first
          | exact (hb.alloc (by omega) _).alloc (by simp; omega) _
          | exact ((hb.alloc (by omega) _).alloc (by simp; omega) _).alloc (by simp; omega) _
          | exact hb.alloc (by omega) _
      · have hh := hnew.out c6
        by_cases c7 : 1 ≤ x.2 ∧ x.2 ≤ 65535
        · obtain ⟨c8, c9⟩ := c7
          have c10 : ¬ x.2 < 1 := by omega
          have c11 : ¬ 65535 < x.2 := by omega
          go_wp2_with (first
            | (at_lookup; refine wpList_lookup_own_unit _ rfl _ _ 78 rfl 9 79 (string_keyed Try.underlying9) Try.underlying78 (zeroU _) g k _ rfl (hown.alloc _) _ _ rfl hkey ?_; rw [hh])
            | (at_mapUpdate; refine wpList_mapUpdate_own _ rfl _ _ _ 78 rfl 9 79 (string_keyed Try.underlying9) Try.underlying78 (unitElem (H := Unit)) g k _ rfl ((hown.alloc _).alloc _) (by unfold maxLen; omega) _ _ _ rfl rfl hkey _ [] unitElem_mk ?_; intro w1 hown1 hgrow1))
          have hgn := Lib.hid (hgs.out.2 ⟨hgd.out, ⟨c8, c9⟩, c6⟩)
          have hgz := hgrow1.size
          simp at hgz
          go_roundw
          case rel => exact ⟨k + 1, by omega, by go_num, hgn, by rw [hsn.out]; exact hown1, grow_low ((hb.alloc (by omega) _).alloc (by simp; omega) _) (by simp; omega) hgrow1 (fun b e => by cases e; exact Nat.le_refl _), by omega⟩
          case measure => simp [intOf]; omega
        · have c10 : x.2 < 1 ∨ 65535 < x.2 := by omega
          have hX := Lib.hid (hbad.out (k + 1) (fun h => c7 (hgs.out.1 h).2.1))
          rcases c10 with c10 | c10
          · go_wp2_with (first
              | (at_lookup; refine wpList_lookup_own_unit _ rfl _ _ 78 rfl 9 79 (string_keyed Try.underlying9) Try.underlying78 (zeroU _) g k _ rfl (hown.alloc _) _ _ rfl hkey ?_; rw [hh]))
            go_ret
            refine ⟨by rw [hX.out]; rfl, ?_⟩
            (try rw [hg])
            first
              | exact (hb.alloc (by omega) _).alloc (by simp; omega) _
              | exact ((hb.alloc (by omega) _).alloc (by simp; omega) _).alloc (by simp; omega) _
              | exact hb.alloc (by omega) _
          · have c11 : ¬ x.2 < 1 := by omega
            go_wp2_with (first
              | (at_lookup; refine wpList_lookup_own_unit _ rfl _ _ 78 rfl 9 79 (string_keyed Try.underlying9) Try.underlying78 (zeroU _) g k _ rfl (hown.alloc _) _ _ rfl hkey ?_; rw [hh]))
            go_ret
            refine ⟨by rw [hX.out]; rfl, ?_⟩
            (try rw [hg])
            first
              | exact (hb.alloc (by omega) _).alloc (by simp; omega) _
              | exact ((hb.alloc (by omega) _).alloc (by simp; omega) _).alloc (by simp; omega) _
              | exact hb.alloc (by omega) _
    · have hk : k = xs.length := by omega
      have hX := Lib.hid (hok.out (by have h1 := hgd.out; rw [List.take_of_length_le (by omega)] at h1; exact h1))
      subst hk
      go_wp2
      go_ret
      refine ⟨by rw [hX.out]; rfl, ?_⟩
      (try rw [hg]); exact hb
end Go.Proofs.Ytclngmjfhlindaa.Ma
