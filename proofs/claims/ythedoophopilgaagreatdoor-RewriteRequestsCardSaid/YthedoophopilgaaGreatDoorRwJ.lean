/- fields.Fields.Drop; slices.DeleteFunc at texts; fields.Fields.Tokens. -/
import Derived.Test.YthedoophopilgaaGreatDoorRwI
namespace Go.Proofs.YthedoophopilgaaGreatDoor.Rw
open Go.RowKit Go.Proofs.YthedoophopilgaaGreatDoor.Oct
set_option linter.unusedVariables false
set_option maxHeartbeats 2000000 in
theorem drop_any (xs : List Fld) (hX : ∀ x ∈ xs, x.1.size ≤ 1000000) (ts : List ByteArray) (hT : ∀ t ∈ ts, t.size ≤ 1000000) (v nv : Value) (w : World) (hF : FldsB w v xs) (hS : Strs w nv ts) (hM : xs.length ≤ 1000000) (hN : ts.length ≤ 1000000) :
    Calls Tryz.prog 27 #[v, nv] w fun e w' => ∃ u, e = .returned u ∧ OwnF 41 w' w.heap.size u (dropF xs ts) ∧ Below w.heap.size w w' := by
  have hD := Lib.hid (show xs.filter (fun x => !anyF ts x) = dropF xs ts from rfl)
  have hS' := Lib.hid hS
  obtain ⟨A, c, rfl, hc, hr⟩ := hS
  have hB := (Below.refl _ w).alloc (Nat.le_refl _) (.cells #[.slice A ts.length c] 53)
  have hnew : (w.alloc (.cells #[.slice A ts.length c] 53)).cell? ⟨w.heap.size, 0, none⟩ = some (.slice A ts.length c) := (cell_of_row _ w.heap.size 0 #[.slice A ts.length c] 53 (0, 0) (heap_alloc_new w _)).trans rfl
  have dC := clone_any xs v (w.alloc (.cells #[.slice A ts.length c] 53)) (hF.below hB) hM
  have hsz : (w.alloc (.cells #[.slice A ts.length c] 53)).heap.size = w.heap.size + 1 := by simp
  have hS1 := hS'.out.below hB
  rw [hsz] at dC
  have dD := fun u (w1 : World) (hb : Below (w.heap.size + 1) (w.alloc (.cells #[.slice A ts.length c] 53)) w1) (ho : OwnF 41 w1 (w.heap.size + 1) u xs) => delF_any xs hX ts hT w.heap.size (.slice A ts.length c) (w.heap.size + 1) u w1 ho hM hN (by have := hb.size; omega) (fun W hW => by
    have hbW := hb.trans hW
    refine ⟨(hbW.cell (p := ⟨w.heap.size, 0, none⟩) (by show w.heap.size < _; omega)).trans hnew, hS1.below (by rw [hsz]; exact hbW)⟩)
  clear hS1 hS' hr hF hnew hsz
  go_enter Tryz.func27, Tryz.ntmps27
  go_wp2_with (first
    | (go_at_call 33; (with_reducible refine dC.mono ?_); rintro e w1 ⟨u1, rfl, ho1, hb1⟩)
    | (go_at_call 41; (with_reducible refine (dD _ _ hb1 ho1).mono ?_); rintro e w2 ⟨u2, rfl, ho2, hb2⟩))
  go_ret
  rw [hD.out] at ho2
  exact ⟨_, rfl, own_lower ho2 (by omega), hB.trans ((hb1.trans hb2).mono (by omega))⟩
theorem zeroStr (w : World) : (zeroValue 9).run Tryz.prog w = .ok (.string ⟨#[]⟩) w := by kernel_rfl
set_option maxRecDepth 100000 in
set_option maxHeartbeats 8000000 in
theorem delK_any (xs : List ByteArray) (base : Nat) (v : Value) (w : World) (hown : OwnStrs w base v xs) (hM : xs.length ≤ 1000000) (hbs : base ≤ w.heap.size) :
    Calls Tryz.prog 24 #[v, .func (.func 26) #[] #[]] w fun e w' => ∃ u, e = .returned u ∧ OwnStrs w' base u (xs.filter (fun x => !keptB x)) ∧ Below base w w' := by
  have dI := idxKept_any xs v w hown.strs hM
  unfold OwnStrs at hown ⊢
  cases ha : xs.any keptB with
  | false =>
    obtain ⟨e1, e2⟩ := idx_none ha
    rw [e1] at dI
    rw [e2]
    clear ha e1 e2
    go_enter Tryz.func24, Tryz.ntmps24
    go_wp2_with (go_at_call 38; (with_reducible refine dI.mono ?_); rintro e w1 ⟨rfl, hb1⟩)
    go_ret
    exact ⟨_, rfl, hown.kept (grown_below hb1) (own_none _), hb1.mono hbs⟩
  | true =>
    obtain ⟨k0, x0, hk0, hp0, hno0, e1⟩ := idx_at ha
    rw [e1] at dI
    have hk0l : k0 < xs.length := (List.getElem?_eq_some_iff.1 hk0).1
    have hD0 := Lib.hid (Del.start hk0 hp0 hno0)
    clear ha e1 hk0 hp0 hno0
    rcases id hown.2 with ⟨_, h0⟩ | ⟨g, cap, cur, rfl, hbg, hg, hcap1, hcap2, _, _⟩
    · omega
    have hgl : g < w.heap.size := (Array.getElem?_eq_some_iff.1 hg).1
    have hne1 : ((k0 : Int) == -1) = false := beq_eq_false_iff_ne.2 (by omega)
    clear hg
    go_enter Tryz.func24, Tryz.ntmps24
    go_wp2_with (go_at_call 38; (with_reducible refine dI.mono ?_); rintro e w1 ⟨rfl, hb1⟩)
    have hown1 := hown.kept (grown_below hb1) (own_none _)
    have hbB : Below base w w1 := hb1.mono hbs
    have hs1 : w.heap.size ≤ w1.heap.size := hb1.size
    clear hb1 hown dI
    go_loopw [5, 6] (fun iv jv wr => ∃ (i j : Nat) (dk : List ByteArray), iv = .int .i64 i ∧ jv = .int .i64 j ∧ i < j ∧ j ≤ xs.length ∧ Hid (Del keptB xs dk i j) ∧ wr.ownsRow base 9 1 (.slice (some ⟨g, 0, none⟩) xs.length cap) xs.length (dk.map Value.string) ∧ Below base w wr) (fun _ jv _ => xs.length - (intOf jv).toNat)
    case atStart => exact ⟨k0, k0 + 1, xs, rfl, by go_num, by omega, by omega, hD0, hown1, hbB⟩
    case round =>
      obtain ⟨i, j, dk, rfl, rfl, hij, hj, hD, hownr, hb⟩ := hrel
      have hsw : w.heap.size ≤ wr.heap.size := hb.size
      have hlen : dk.length = xs.length := hD.out.len
      by_cases c1 : j < xs.length
      · obtain ⟨x, hxe⟩ : ∃ x, xs[j] = x := ⟨_, rfl⟩
        have hdj : dk[j]? = some x := by rw [hD.out.at c1, hxe]
        have hc0 : wr.cell? ⟨g, j, none⟩ = some (.string x) := (hownr.cellAt j (by omega)).trans (by rw [List.getElem?_map, hdj]; rfl)
        have dK := fun W => kept_any x W
        have hxh := Lib.hid hxe
        have z1 : (j : Int) < (xs.length : Int) := by omega
        have z2 : (i : Int) < (xs.length : Int) := by omega
        have hfz0 := hownr.frozenAt i
        obtain ⟨o0, hco0⟩ : ∃ o, wr.cell? ⟨g, i, none⟩ = some o := by
          rw [hownr.cellAt i (by omega)]
          exact ⟨_, List.getElem?_eq_getElem (by rw [hownr.1]; omega)⟩
        clear hdj hxe hlen
        cases hp : keptB x with
        | true =>
          rw [hp] at dK
          have hD2 := Lib.hid (hD.out.skip c1 hxh.out hp)
          clear hp
          go_wp2_with (go_at_call 26; (with_reducible refine (dK _).mono ?_); rintro e w3 ⟨rfl, rfl⟩)
          go_roundw
          case rel => exact ⟨i, j + 1, dk, rfl, by go_num, by omega, by omega, hD2, hownr, hb⟩
          case measure => simp [intOf]; omega
        | false =>
          rw [hp] at dK
          have hD2 := Lib.hid (hD.out.keep c1 hxh.out hp)
          clear hp
          go_wp2_with (go_at_call 26; (with_reducible refine (dK _).mono ?_); rintro e w3 ⟨rfl, rfl⟩)
          go_roundw
          case rel =>
            refine ⟨i + 1, j + 1, dk.set i x, by go_num, by go_num, by omega, by omega, hD2, ?_, ?_⟩
            · rw [List.map_set]
              exact (hownr.stored i (.string x)).1
            · exact hb.setCell (p := ⟨g, i, none⟩) hbg _
          case measure => simp [intOf]; omega
      · have hjl : j = xs.length := by omega
        subst hjl
        have hcl : ∀ ty, (Builtin.clear_ #[53] ty #[.slice (some ⟨g, i, none⟩) (xs.length - i) (cap - i)]).run Tryz.prog wr = .ok (.tuple #[]) (wr.setCells g i (List.replicate (xs.length - i) (.string ⟨#[]⟩))) := fun ty =>
          Lib.run_clear_slice wr _ _ ty _ Tryz.underlying53 zeroStr rfl rfl g i _ _ (by omega) (fun t ht => by rw [hownr.cellAt (i + t) (by omega), List.getElem?_eq_getElem (by rw [hownr.1]; omega)]; rfl) (fun t ht => hownr.frozenAt _)
        obtain ⟨L', ho', hL', hbS⟩ := stored_all hbg (List.replicate (xs.length - i) (.string ⟨#[]⟩)) i wr _ hownr
        have hpre := ownsRow_prefix (k := i) ho' (by omega)
        rw [Nat.mul_one, hL' _ (Nat.le_refl _), ← List.map_take] at hpre
        obtain ⟨e1, e2⟩ := hD.out.done
        have z2 : (i : Int) < (xs.length : Int) := by omega
        have z3 : (i : Int) ≤ (cap : Int) := by omega
        have z4 : (0 : Int) ≤ (i : Int) := by omega
        have z5 : (xs.length : Int) ≤ (cap : Int) := by omega
        have z6 : (i : Int) ≤ (xs.length : Int) := by omega
        rw [e1] at hpre
        have hfin : (wr.setCells g i (List.replicate (xs.length - i) (.string ⟨#[]⟩))).ownsRow base 9 1 (.slice (some ⟨g, 0, none⟩) i cap) (xs.filter (fun x => !keptB x)).length ((xs.filter (fun x => !keptB x)).map Value.string) := by rw [e2]; exact hpre
        have hbF := hb.trans hbS
        clear hpre e1 e2 ho' hL' hbS
        generalize wr.setCells g i (List.replicate (xs.length - i) (.string ⟨#[]⟩)) = wF at *
        go_wp2
        go_ret
        exact ⟨_, rfl, hfin, hbF⟩
end Go.Proofs.YthedoophopilgaaGreatDoor.Rw
