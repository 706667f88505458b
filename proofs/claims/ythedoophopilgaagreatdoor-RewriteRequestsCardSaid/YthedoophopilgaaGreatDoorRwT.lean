/- The closure of fields.Fields.Set; slices.Grow at fields. -/
import Derived.Test.YthedoophopilgaaGreatDoorRwS
namespace Go
/-- 'append(nil, make([]E, n)...)': n zero values in a new row. -/
theorem run_append_zeros_own {P : Program} (w : World) (t u ty e : TypeId) (i : TypeInfo) (z : Value) (ht : P.underlying t = some (.slice e)) (hu : P.underlying u = some (.int .i64)) (hi : P.info? e = some i) (hz : i.zero = some z)
    (n : Nat) (h0 : 0 < n) (hs : 0 < i.size) (h63 : (n : Int) ≤ 1000000000) (hb : i.bytes ≤ 1000) (hm : n ≤ maxLen) (hzs : z.cells.size = i.size) :
    ∃ c w', (Builtin.append_ #[t, u] ty #[.slice none 0 0, .int .i64 n]).run P w = .ok (.slice (some ⟨w.heap.size, 0, none⟩) n c) w' ∧ n ≤ c ∧
      w'.ownsRow w.heap.size e i.size (.slice (some ⟨w.heap.size, 0, none⟩) 0 c) 0 [] ∧ w.grownBy w' none := by
  have hn : n ≠ 0 := by omega
  have hnb : n * i.bytes ≤ 1000000000 * 1000 := Nat.mul_le_mul (by omega) hb
  have h63' : ¬ (9223372036854775807 < (n : Int)) := by omega
  have h48 : ¬ (281474976710656 < Builtin.nextslicecap n 0 * i.bytes) := by rw [nextslicecap_zero h0]; omega
  have hw : IntKind.i64.wrap (n : Int) = n := IntWalk.i64_in _ (by omega)
  have hneg : ¬ ((n : Int) < 0) := by omega
  have hbig : ¬ (281474976710656 < (n : Int) * (i.bytes : Int)) := by rw [← Int.natCast_mul]; omega
  have hns : ¬ (n * i.size = 0) := by
    intro h
    rcases Nat.mul_eq_zero.1 h with h | h <;> omega
  refine ⟨grownCap w n 0 e, w.drew.alloc (.cells (Builtin.zeroCells z.cells n ++ Builtin.zeroCells z.cells (grownCap w n 0 e - n)) e), ?_, grownCap_ge w n 0 e, ⟨by simp, .inr ⟨w.heap.size, _, _, rfl, Nat.le_refl _, heap_alloc_new w.drew _, Nat.zero_le _, grownCap_le_maxLen w n 0 e hm, ?_, by simp⟩⟩, ⟨rfl, rfl, rfl, by simp, fun k hk _ => RowKit.Below.heap_alloc w.drew _ k hk⟩⟩
  · have ha : ∀ W : World, (asIntOf (Value.int .i64 (n : Int))).run P W = .ok (.i64, (n : Int)) W := fun W => rfl
    simp [Builtin.append_, run_underlying ht, run_underlying hu, sizeOf, typeInfo, zeroValue, hi, hz, Builtin.lenOf, hn, h63', h48, hw, hneg, hbig, hns, Question.forced, run_firstCells_none, newRow, grownCap, asInt, ha]
  · have := grownCap_ge w n 0 e
    simp only [Array.size_append, size_zeroCells, hzs, ← Nat.add_mul]
    congr 1
    omega
theorem wpList_append_zeros {P : Program} {w : World} {ops : Array Oper} {rest : List Oper} {o : Oper} {a : Act} {Q : Exit → Act → World → Prop} (hgd : o.guard = none) (s x : Operand) (t u : TypeId)
    (ho : o.op = .call { callee := .builtin .append, args := #[s, x], argTypes := #[t, u] }) (e : TypeId) (i : TypeInfo) (z : Value) (ht : P.underlying t = some (.slice e)) (hu : P.underlying u = some (.int .i64)) (hi : P.info? e = some i) (hz : i.zero = some z)
    (n : Nat) (h0 : 0 < n) (hs0 : 0 < i.size) (h63 : (n : Int) ≤ 1000000000) (hb : i.bytes ≤ 1000) (hm : n ≤ maxLen) (hzs : z.cells.size = i.size)
    (hs : a.eval s = .slice none 0 0) (hx : a.eval x = .int .i64 n)
    (h : ∀ c w', n ≤ c → w'.ownsRow w.heap.size e i.size (.slice (some ⟨w.heap.size, 0, none⟩) 0 c) 0 [] → w.grownBy w' none → wpList P ops Q rest (a.put o.dst (.slice (some ⟨w.heap.size, 0, none⟩) n c)) w') :
    wpList P ops Q (o :: rest) a w := by
  refine wpList_plain hgd fun K hK => ?_
  obtain ⟨c, w', hr, h2, h3, h4⟩ := run_append_zeros_own (P := P) w t u o.type e i z ht hu hi hz n h0 hs0 h63 hb hm hzs
  unfold Oper.wp execOp
  simp only [ho, resolve, invoke, builtin, Sem.run_bind, Sem.run_pure, Result.andThen_ok, List.map_toArray, List.map_cons, List.map_nil, hs, hx, hr]
  exact hK _ _ (h c w' h2 h3 h4)
end Go
namespace Go.Proofs.YthedoophopilgaaGreatDoor.Rw
open Go.RowKit Go.Proofs.YthedoophopilgaaGreatDoor.Oct
set_option linter.unusedVariables false
set_option maxHeartbeats 1000000 in
theorem set1_any (f : Fld) (hf : f.1.size ≤ 1000000) (nm : ByteArray) (hn : nm.size ≤ 1000000) (nb : Nat) (w : World) (hc : w.cell? ⟨nb, 0, none⟩ = some (.string nm)) :
    Calls Tryz.prog 47 #[.agg #[.string f.1, .string f.2], .pointer (some ⟨nb, 0, none⟩)] w fun e w' => e = .returned (.bool (isF f nm)) ∧ Below w.heap.size w w' := by
  have hlt : nb < w.heap.size := World.block_lt_of_cell? w _ hc
  have hB := (Below.refl _ w).alloc (Nat.le_refl _) (.cells #[.string f.1, .string f.2] 41)
  have hz : w.heap.size ≤ (w.alloc (.cells #[.string f.1, .string f.2] 41)).heap.size := by simp
  have hc1 := (hB.cell (p := ⟨nb, 0, none⟩) hlt).trans hc
  have d := fun W => is_any f nm (by unfold maxLen; omega) (by unfold maxLen; omega) W
  generalize isF f nm = r at *
  go_enter Tryz.func47, Tryz.ntmps47
  go_wp2_with (go_at_call 44; (with_reducible refine (d _).mono ?_); rintro e w3 ⟨rfl, hb3⟩)
  go_ret
  exact ⟨rfl, hB.trans (hb3.mono hz)⟩
set_option maxRecDepth 100000 in
set_option maxHeartbeats 4000000 in
theorem idxS_any (xs : List Fld) (hX : ∀ x ∈ xs, x.1.size ≤ 1000000) (nm : ByteArray) (hn : nm.size ≤ 1000000) (nb : Nat) (v : Value) (w : World) (hc : w.cell? ⟨nb, 0, none⟩ = some (.string nm)) (hF : Flds w v xs) (hM : xs.length ≤ 1000000) :
    Calls Tryz.prog 46 #[v, .func (.func 47) #[] #[.pointer (some ⟨nb, 0, none⟩)]] w fun e w' => e = .returned (.int .i64 (idxF (fun f => isF f nm) xs)) ∧ Below w.heap.size w w' := by
  have hlt0 : nb < w.heap.size := World.block_lt_of_cell? w _ hc
  have hcH := Lib.hid hc
  obtain ⟨A, c, rfl, hc', hr⟩ := hF
  clear hc
  go_enter Tryz.func46, Tryz.ntmps46
  go_wp2
  go_loopw [8] (fun i wr => ∃ k : Nat, k ≤ xs.length ∧ i = .int .i64 k ∧ Hid (∀ j y, j < k → xs[j]? = some y → isF y nm = false) ∧ Below w.heap.size w wr) (fun i _ => xs.length - (intOf i).toNat)
  case atStart => exact ⟨0, Nat.zero_le _, rfl, Lib.hid (fun j y h => by omega), Below.refl _ _⟩
  case round =>
    obtain ⟨k, hk, rfl, hno, hb⟩ := hrel
    by_cases c1 : k < xs.length
    · obtain ⟨b, o, rfl, hlt, hx⟩ := hr (by omega)
      have hxk : xs[k]? = some xs[k] := List.getElem?_eq_getElem c1
      have hx0 := hx k xs[k] hxk
      have hc0 := (hb.cell (p := ⟨b, o + k * 2, none⟩) (by show b < _; omega)).trans hx0.1
      have hc1 := (hb.cell (p := ⟨b, o + k * 2 + 1, none⟩) (by show b < _; omega)).trans hx0.2
      have hxh := Lib.hid hxk
      have dK := set1_any xs[k] (hX _ (by simp)) nm hn nb wr ((hb.cell (p := ⟨nb, 0, none⟩) hlt0).trans hcH.out)
      have hsz := hb.size
      generalize xs[k] = x at *
      clear hxk hx hx0
      cases hp : isF x nm with
      | true =>
        rw [hp] at dK
        have hY := Lib.hid (idx_yes (p := fun f => isF f nm) hxh.out hp hno.out).2
        clear hp
        go_wp2_with (go_at_call 47; (with_reducible refine dK.mono ?_); rintro e w3 ⟨rfl, hb3⟩)
        go_ret
        exact ⟨ret_int hY.out.symm, hb.trans (hb3.mono hsz)⟩
      | false =>
        rw [hp] at dK
        have hn2 := step_noA (p := fun f => isF f nm) hxh.out hp hno
        clear hp
        go_wp2_with (go_at_call 47; (with_reducible refine dK.mono ?_); rintro e w3 ⟨rfl, hb3⟩)
        go_roundw
        case rel => exact ⟨k + 1, by omega, by go_num, hn2, hb.trans (hb3.mono hsz)⟩
        case measure => simp [intOf]; omega
    · have hY := Lib.hid (idx_no (p := fun f => isF f nm) (l := xs) (fun j x hj hx => hno.out j x (by omega) hx)).2
      go_wp2
      go_ret
      exact ⟨ret_int hY.out.symm, hb⟩
set_option maxRecDepth 100000 in
set_option maxHeartbeats 4000000 in
theorem grow_any (n : Nat) (h0 : 0 < n) (h1 : n ≤ 1000000) (w : World) :
    Calls Tryz.prog 58 #[.slice none 0 0, .int .i64 n] w fun e w' => ∃ u, e = .returned u ∧ w'.ownsRow w.heap.size 41 2 u 0 [] ∧ Below w.heap.size w w' := by
  obtain ⟨i0, hi, hz0, hz1, hz2⟩ := info_parts infoF
  have z1 : (0 : Int) < (n : Int) := by omega
  have z2 : ¬ (n : Int) < 0 := by omega
  go_enter Tryz.func58, Tryz.ntmps58
  go_wp2_with (at_builtin; refine wpList_append_zeros rfl _ _ 32 3 rfl 41 i0 _ Tryz.underlying32 Tryz.underlying3 hi hz0 n h0 (by omega) (by omega) (by omega) (by unfold maxLen; omega) (by rw [hz1]; rfl) rfl rfl ?_; intro c w' hnc ho hg; rw [hz1] at ho; have z3 : (0 : Int) ≤ (c : Int) := by omega)
  go_ret
  exact ⟨_, rfl, ho, (Below.refl _ _).grown hg (Nat.le_refl _) (by intro k hk; cases hk)⟩
end Go.Proofs.YthedoophopilgaaGreatDoor.Rw
