/- The closure of fields.Fields.Drop; slices.IndexFunc, Clone and DeleteFunc at fields. -/
import Derived.Test.YthedoophopilgaaGreatDoorRwF
import Derived.Lib.SliceRun
namespace Go.Proofs.YthedoophopilgaaGreatDoor.Rw
open Go.RowKit Go.Proofs.YthedoophopilgaaGreatDoor.Oct
set_option linter.unusedVariables false
set_option maxHeartbeats 1000000 in
theorem drop1_any (f : Fld) (hf : f.1.size ≤ 1000000) (ts : List ByteArray) (hT : ∀ t ∈ ts, t.size ≤ 1000000) (nb : Nat) (nv : Value) (w : World) (hc : w.cell? ⟨nb, 0, none⟩ = some nv) (hv : Strs w nv ts) (hN : ts.length ≤ 1000000) :
    Calls Tryz.prog 42 #[.agg #[.string f.1, .string f.2], .pointer (some ⟨nb, 0, none⟩)] w fun e w' => e = .returned (.bool (ts.any (isF f))) ∧ Below w.heap.size w w' := by
  have hlt : nb < w.heap.size := World.block_lt_of_cell? w _ hc
  have hB := (Below.refl _ w).alloc (Nat.le_refl _) (.cells #[.string f.1, .string f.2] 41)
  have hz : w.heap.size ≤ (w.alloc (.cells #[.string f.1, .string f.2] 41)).heap.size := by simp
  have hv1 := hv.below hB
  have hc1 := (hB.cell (p := ⟨nb, 0, none⟩) hlt).trans hc
  have d := contIs_any f hf ts hT nv _ hv1 hN
  clear hv
  generalize ts.any (isF f) = r at *
  go_enter Tryz.func42, Tryz.ntmps42
  go_wp2_with (go_at_call 43; (with_reducible refine d.mono ?_); rintro e w3 ⟨rfl, hb3⟩)
  go_ret
  exact ⟨rfl, hB.trans (hb3.mono hz)⟩
def anyF (ts : List ByteArray) (f : Fld) : Bool := ts.any (isF f)
set_option maxRecDepth 100000 in
set_option maxHeartbeats 4000000 in
theorem idxF_any (xs : List Fld) (hX : ∀ x ∈ xs, x.1.size ≤ 1000000) (ts : List ByteArray) (hT : ∀ t ∈ ts, t.size ≤ 1000000) (nb : Nat) (nv : Value) (v : Value) (w : World) (hc : w.cell? ⟨nb, 0, none⟩ = some nv) (hv : Strs w nv ts) (hN : ts.length ≤ 1000000) (hF : Flds w v xs) (hM : xs.length ≤ 1000000) :
    Calls Tryz.prog 46 #[v, .func (.func 42) #[] #[.pointer (some ⟨nb, 0, none⟩)]] w fun e w' => e = .returned (.int .i64 (idxF (anyF ts) xs)) ∧ Below w.heap.size w w' := by
  have hlt0 : nb < w.heap.size := World.block_lt_of_cell? w _ hc
  have hcH := Lib.hid hc
  obtain ⟨A, c, rfl, hc', hr⟩ := hF
  clear hc
  go_enter Tryz.func46, Tryz.ntmps46
  go_wp2
  go_loopw [8] (fun i wr => ∃ k : Nat, k ≤ xs.length ∧ i = .int .i64 k ∧ Hid (∀ j y, j < k → xs[j]? = some y → anyF ts y = false) ∧ Below w.heap.size w wr) (fun i _ => xs.length - (intOf i).toNat)
  case atStart => exact ⟨0, Nat.zero_le _, rfl, Lib.hid (fun j y h => by omega), Below.refl _ _⟩
  case round =>
    obtain ⟨k, hk, rfl, hno, hb⟩ := hrel
    by_cases c1 : k < xs.length
    · obtain ⟨b, o, rfl, hlt, hx⟩ := hr (by omega)
      have hxk : xs[k]? = some xs[k] := List.getElem?_eq_getElem c1
      have hx0 := hx k xs[k] hxk
      have hc0 := (hb.cell (p := ⟨b, o + k * 2, none⟩) (by show b < _; omega)).trans hx0.1
      have hc1 := (hb.cell (p := ⟨b, o + k * 2 + 1, none⟩) (by show b < _; omega)).trans hx0.2
      have hxh := Lib.hid hxk
      have dK := drop1_any xs[k] (hX _ (by simp)) ts hT nb nv wr ((hb.cell (p := ⟨nb, 0, none⟩) hlt0).trans hcH.out) (hv.below hb) hN
      have hsz := hb.size
      have hA := Lib.hid (show anyF ts xs[k] = ts.any (isF xs[k]) from rfl)
      generalize xs[k] = x at *
      clear hxk hx hx0
      cases hp : ts.any (isF x) with
      | true =>
        rw [hp] at dK
        have hY := Lib.hid (idx_yes (p := anyF ts) hxh.out (by rw [hA.out, hp]) hno.out).2
        clear hp
        go_wp2_with (go_at_call 42; (with_reducible refine dK.mono ?_); rintro e w3 ⟨rfl, hb3⟩)
        go_ret
        exact ⟨ret_int hY.out.symm, hb.trans (hb3.mono hsz)⟩
      | false =>
        rw [hp] at dK
        have hn2 := step_noA (p := anyF ts) hxh.out (by rw [hA.out, hp]) hno
        clear hp
        go_wp2_with (go_at_call 42; (with_reducible refine dK.mono ?_); rintro e w3 ⟨rfl, hb3⟩)
        go_roundw
        case rel => exact ⟨k + 1, by omega, by go_num, hn2, hb.trans (hb3.mono hsz)⟩
        case measure => simp [intOf]; omega
    · have hY := Lib.hid (idx_no (p := anyF ts) (l := xs) (fun j x hj hx => hno.out j x (by omega) hx)).2
      go_wp2
      go_ret
      exact ⟨ret_int hY.out.symm, hb⟩
/-- nil, or at a block's place. -/
def FldsB (w : World) (v : Value) (xs : List Fld) : Prop :=
  (v = .slice none 0 0 ∧ xs = []) ∨ ∃ b o c, v = .slice (some ⟨b, o, none⟩) xs.length c ∧ xs.length ≤ c ∧ b < w.heap.size ∧ ∀ j x, xs[j]? = some x → w.cell? ⟨b, o + j * 2, none⟩ = some (.string x.1) ∧ w.cell? ⟨b, o + j * 2 + 1, none⟩ = some (.string x.2)
theorem OwnF.fldsB {e : TypeId} {w : World} {base : Nat} {v : Value} {xs : List Fld} (h : OwnF e w base v xs) : FldsB w v xs := by
  have h' : w.ownsRow base e 2 v xs.length (xs.flatMap fldV) := h
  rcases h.2 with ⟨rfl, h0⟩ | ⟨g, cap, cur, rfl, hb, hg, h1, h2, h3, h4⟩
  · exact .inl ⟨rfl, List.length_eq_zero_iff.1 h0⟩
  · refine .inr ⟨g, 0, cap, rfl, h1, (Array.getElem?_eq_some_iff.1 hg).1, fun j x hj => ?_⟩
    have hj2 : j < xs.length := (List.getElem?_eq_some_iff.1 hj).1
    have hx : xs[j] = x := (List.getElem?_eq_some_iff.1 hj).2
    obtain ⟨f1, f2⟩ := flat_get xs j hj2
    rw [hx] at f1 f2
    exact ⟨by rw [Nat.zero_add, h'.cellAt (j * 2) (by omega)]; exact f1, by rw [Nat.zero_add, h'.cellAt (j * 2 + 1) (by omega)]; exact f2⟩
theorem FldsB.below {w w' : World} {v : Value} {xs : List Fld} (h : FldsB w v xs) (hb : Below w.heap.size w w') : FldsB w' v xs := by
  rcases h with h | ⟨b, o, c, h1, h2, hlt, h3⟩
  · exact .inl h
  · exact .inr ⟨b, o, c, h1, h2, Nat.lt_of_lt_of_le hlt hb.size, fun j x hj => ⟨(hb.cell (p := ⟨b, o + j * 2, none⟩) hlt).trans (h3 j x hj).1, (hb.cell (p := ⟨b, o + j * 2 + 1, none⟩) hlt).trans (h3 j x hj).2⟩⟩
theorem add_mid (b o n : Nat) : (⟨b, o, none⟩ : Addr).add n = ⟨b, o + n, none⟩ := by simp [Addr.add]
theorem flat_cells {w : World} {b o : Nat} {xs : List Fld} (h : ∀ j x, xs[j]? = some x → w.cell? ⟨b, o + j * 2, none⟩ = some (.string x.1) ∧ w.cell? ⟨b, o + j * 2 + 1, none⟩ = some (.string x.2)) :
    ∀ j u, (xs.flatMap fldV)[j]? = some u → w.cell? ((⟨b, o, none⟩ : Addr).add j) = some u := by
  intro j u hu
  have hj := (List.getElem?_eq_some_iff.1 hu).1
  rw [flat_len] at hj
  rw [add_mid]
  obtain ⟨q, r, hqr, hr⟩ : ∃ q r, j = q * 2 + r ∧ r < 2 := ⟨j / 2, j % 2, by omega, by omega⟩
  have hq : q < xs.length := by omega
  obtain ⟨f1, f2⟩ := flat_get xs q hq
  obtain ⟨g1, g2⟩ := h q xs[q] (List.getElem?_eq_getElem hq)
  rcases (show r = 0 ∨ r = 1 by omega) with rfl | rfl
  · rw [hqr, Nat.add_zero] at hu ⊢
    rw [f1] at hu; cases hu; exact g1
  · rw [hqr] at hu ⊢
    rw [f2] at hu; cases hu
    rw [← Nat.add_assoc]; exact g2
set_option maxRecDepth 100000 in
set_option maxHeartbeats 4000000 in
theorem clone_any (xs : List Fld) (v : Value) (w : World) (hF : FldsB w v xs) (hM : xs.length ≤ 1000000) :
    Calls Tryz.prog 33 #[v] w fun e w' => ∃ u, e = .returned u ∧ OwnF 41 w' w.heap.size u xs ∧ Below w.heap.size w w' := by
  obtain ⟨i0, hi, hz0, hz1, hz2⟩ := info_parts infoF
  rcases hF with ⟨rfl, rfl⟩ | ⟨b, o, c, rfl, hc, hlt, hx⟩
  · have hnil := fun W => Lib.run_eql_slice_nil (P := Tryz.prog) W 32 41 none 0 0 0 0 Tryz.underlying32
    go_enter Tryz.func33, Tryz.ntmps33
    go_wp2
    go_ret
    exact ⟨_, rfl, World.ownsRow_nil _ _ _ _, Below.refl _ _⟩
  · have hB := (Below.refl _ w).alloc (Nat.le_refl _) (.cells #[] 41)
    have ho0 : (w.alloc (.cells #[] 41)).ownsRow w.heap.size 41 2 (.slice (some ⟨w.heap.size, 0, none⟩) 0 0) 0 [] := World.ownsRow_lit w #[] 0 (Nat.le_refl _) (by unfold maxLen; omega) rfl
    have hcs := flat_cells (w := w.alloc (.cells #[] 41)) (fun j x hj => ⟨(hB.cell (p := ⟨b, o + j * 2, none⟩) hlt).trans (hx j x hj).1, (hB.cell (p := ⟨b, o + j * 2 + 1, none⟩) hlt).trans (hx j x hj).2⟩)
    have hl : (xs.flatMap fldV).length = xs.length * 2 := flat_len xs
    have h1 := flat_one xs
    clear hx
    have hcs' := Lib.hid hcs
    have h1' := Lib.hid h1
    have hl' := Lib.hid hl
    clear hcs h1 hl
    unfold OwnF
    have hnil := fun W => Lib.run_eql_slice_nil (P := Tryz.prog) W 32 41 (some ⟨b, o, none⟩) xs.length c 0 0 Tryz.underlying32
    go_enter Tryz.func33, Tryz.ntmps33
    go_wp2_with (at_builtin; refine wpList_append_own _ rfl _ _ 32 rfl w.heap.size 41 i0 _ 2 32 Tryz.underlying32 hi hz0 hz1 hz2 rfl (by decide) _ _ _ rfl ho0 ⟨b, o, none⟩ xs.length c (xs.flatMap fldV) rfl hl'.out hcs'.out h1'.out (by unfold maxLen; omega) (by omega) (by simp) ?_; intro v' w4 hown' hgrow _)
    go_ret
    rw [Nat.zero_add, List.nil_append] at hown'
    exact ⟨_, rfl, hown', grow_low hB (by simp) hgrow (fun b e => (ho0.lt b e).1)⟩
end Go.Proofs.YthedoophopilgaaGreatDoor.Rw
