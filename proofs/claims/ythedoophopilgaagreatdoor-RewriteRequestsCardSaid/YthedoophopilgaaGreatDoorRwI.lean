/- slices.DeleteFunc at fields: the walk. -/
import Derived.Test.YthedoophopilgaaGreatDoorRwH
namespace Go.Proofs.YthedoophopilgaaGreatDoor.Rw
open Go.RowKit Go.Proofs.YthedoophopilgaaGreatDoor.Oct
set_option linter.unusedVariables false
theorem ownsRow_prefix {w : World} {base g cap n k size : Nat} {e : TypeId} {xs : List Value} (h : w.ownsRow base e size (.slice (some ⟨g, 0, none⟩) n cap) n xs) (hk : k ≤ n) : w.ownsRow base e size (.slice (some ⟨g, 0, none⟩) k cap) k (xs.take (k * size)) := by
  obtain ⟨h1, h2⟩ := h
  have hks : k * size ≤ n * size := Nat.mul_le_mul_right size hk
  rcases h2 with ⟨h0, _⟩ | ⟨g', cap', cur, hv, hb, hg, h3, h4, h5, h6⟩
  · cases h0
  · cases hv
    refine ⟨by rw [List.length_take, h1]; omega, .inr ⟨g, cap, cur, rfl, hb, hg, by omega, h4, h5, ?_⟩⟩
    rw [← h6, List.take_take, Nat.min_eq_left hks]
theorem stored_all {base g n cap size : Nat} {e : TypeId} (hg : base ≤ g) : ∀ (vs : List Value) (o : Nat) (w : World) (L : List Value), w.ownsRow base e size (.slice (some ⟨g, 0, none⟩) n cap) n L →
    ∃ L', (w.setCells g o vs).ownsRow base e size (.slice (some ⟨g, 0, none⟩) n cap) n L' ∧ (∀ m, m ≤ o → L'.take m = L.take m) ∧ Below base w (w.setCells g o vs)
  | [], o, w, L, h => ⟨L, h, fun _ _ => rfl, Below.refl _ _⟩
  | v :: vs, o, w, L, h => by
    obtain ⟨L', h1, h2, h3⟩ := stored_all hg vs (o + 1) _ _ (h.stored o v).1
    exact ⟨L', h1, fun m hm => by rw [h2 m (by omega), List.take_set_of_le (by omega)], ((Below.refl base w).setCell (p := ⟨g, o, none⟩) hg v).trans h3⟩
theorem flat_take : ∀ (L : List Fld) (a : Nat), (L.flatMap fldV).take (a * 2) = (L.take a).flatMap fldV
  | [], a => by simp
  | x :: L, 0 => by simp
  | x :: L, a + 1 => by
    rw [show (a + 1) * 2 = a * 2 + 2 by omega, List.take_succ_cons, List.flatMap_cons, List.flatMap_cons]
    show (fldV x ++ L.flatMap fldV).take (a * 2 + 2) = _
    rw [show fldV x = [.string x.1, .string x.2] from rfl]
    simp only [List.cons_append, List.nil_append, List.take_succ_cons]
    rw [flat_take L a]
set_option maxRecDepth 100000 in
set_option maxHeartbeats 8000000 in
theorem delF_any (xs : List Fld) (hX : ∀ x ∈ xs, x.1.size ≤ 1000000) (ts : List ByteArray) (hT : ∀ t ∈ ts, t.size ≤ 1000000) (nb : Nat) (nv : Value) (base : Nat) (v : Value) (w : World) (hown : OwnF 41 w base v xs) (hM : xs.length ≤ 1000000) (hN : ts.length ≤ 1000000)
    (hbs : base ≤ w.heap.size) (hP : ∀ W, Below base w W → W.cell? ⟨nb, 0, none⟩ = some nv ∧ Strs W nv ts) :
    Calls Tryz.prog 41 #[v, .func (.func 42) #[] #[.pointer (some ⟨nb, 0, none⟩)]] w fun e w' => ∃ u, e = .returned u ∧ OwnF 41 w' base u (xs.filter (fun x => !anyF ts x)) ∧ Below base w w' := by
  obtain ⟨p1, p2⟩ := hP w (Below.refl _ _)
  have dI := idxF_any xs hX ts hT nb nv v w p1 p2 hN hown.flds hM
  have hPh := Lib.hid hP
  clear hP p1 p2
  unfold OwnF at hown ⊢
  cases ha : xs.any (anyF ts) with
  | false =>
    obtain ⟨e1, e2⟩ := idx_none ha
    rw [e1] at dI
    rw [e2]
    clear ha e1 e2
    go_enter Tryz.func41, Tryz.ntmps41
    go_wp2_with (go_at_call 46; (with_reducible refine dI.mono ?_); rintro e w1 ⟨rfl, hb1⟩)
    go_ret
    exact ⟨_, rfl, hown.kept (grown_below hb1) (own_none _), hb1.mono hbs⟩
  | true =>
    obtain ⟨k0, x0, hk0, hp0, hno0, e1⟩ := idx_at ha
    rw [e1] at dI
    have hk0l : k0 < xs.length := (List.getElem?_eq_some_iff.1 hk0).1
    have hD0 := Lib.hid (Del.start hk0 hp0 hno0)
    clear ha e1 hk0 hp0 hno0
    rcases id hown.2 with ⟨_, h0⟩ | ⟨g, cap, cur, rfl, hbg, hg, hcap1, hcap2, _, _⟩
    · omega
    have hgl : g < w.heap.size := (Array.getElem?_eq_some_iff.1 hg).1
    have hne1 : ((k0 : Int) == -1) = false := beq_eq_false_iff_ne.2 (by omega)
    clear hg
    go_enter Tryz.func41, Tryz.ntmps41
    go_wp2_with (go_at_call 46; (with_reducible refine dI.mono ?_); rintro e w1 ⟨rfl, hb1⟩)
    have hown1 := hown.kept (grown_below hb1) (own_none _)
    have hbB : Below base w w1 := hb1.mono hbs
    have hs1 : w.heap.size ≤ w1.heap.size := hb1.size
    clear hb1 hown dI
    go_loopw [5, 6] (fun iv jv wr => ∃ (i j : Nat) (dk : List Fld), iv = .int .i64 i ∧ jv = .int .i64 j ∧ i < j ∧ j ≤ xs.length ∧ Hid (Del (anyF ts) xs dk i j) ∧ wr.ownsRow base 41 2 (.slice (some ⟨g, 0, none⟩) xs.length cap) xs.length (dk.flatMap fldV) ∧ Below base w wr) (fun _ jv _ => xs.length - (intOf jv).toNat)
    case atStart => exact ⟨k0, k0 + 1, xs, rfl, by go_num, by omega, by omega, hD0, hown1, hbB⟩
    case round =>
      obtain ⟨i, j, dk, rfl, rfl, hij, hj, hD, hownr, hb⟩ := hrel
      have hsw : w.heap.size ≤ wr.heap.size := hb.size
      have hlen : dk.length = xs.length := hD.out.len
      by_cases c1 : j < xs.length
      · obtain ⟨x, hxe⟩ : ∃ x, xs[j] = x := ⟨_, rfl⟩
        have hdj : dk[j]? = some x := by rw [hD.out.at c1, hxe]
        obtain ⟨hdl, hde⟩ := List.getElem?_eq_some_iff.1 hdj
        obtain ⟨f1, f2⟩ := flat_get dk j hdl
        rw [hde] at f1 f2
        have hc0 : wr.cell? ⟨g, j * 2, none⟩ = some (.string x.1) := (hownr.cellAt (j * 2) (by omega)).trans f1
        have hc1 : wr.cell? ⟨g, j * 2 + 1, none⟩ = some (.string x.2) := (hownr.cellAt (j * 2 + 1) (by omega)).trans f2
        obtain ⟨q1, q2⟩ := hPh.out wr hb
        have hA := (Below.refl wr.heap.size wr).alloc (Nat.le_refl _) (.cells #[.string x.1, .string x.2] 41)
        have hN2 := new_two wr (.string x.1) (.string x.2) 41
        have dK := drop1_any x (hX _ (hxe ▸ List.getElem_mem c1)) ts hT nb nv (wr.alloc (.cells #[.string x.1, .string x.2] 41)) ((hA.cell (p := ⟨nb, 0, none⟩) (World.block_lt_of_cell? wr _ q1)).trans q1) (q2.below hA) hN
        have hxh := Lib.hid hxe
        have hpa := Lib.hid (show anyF ts x = ts.any (isF x) from rfl)
        have z1 : (j : Int) < (xs.length : Int) := by omega
        have z2 : (i : Int) < (xs.length : Int) := by omega
        clear f1 f2 hdj hdl hde q1 q2 hxe hlen
        cases hp : ts.any (isF x) with
        | true =>
          rw [hp] at dK
          have hD2 := Lib.hid (hD.out.skip c1 hxh.out (by rw [hpa.out, hp]))
          clear hp
          go_wp2_with (go_at_call 42; (with_reducible refine dK.mono ?_); rintro e w3 ⟨rfl, hb3⟩)
          go_roundw
          case rel => exact ⟨i, j + 1, dk, rfl, by go_num, by omega, by omega, hD2, (hownr.alloc _).kept (grown_below hb3) (own_none _), (hb.alloc (by omega) _).trans (hb3.mono (by simp; omega))⟩
          case measure => simp [intOf]; omega
        | false =>
          rw [hp] at dK
          have hD2 := Lib.hid (hD.out.keep c1 hxh.out (by rw [hpa.out, hp]))
          clear hp
          go_wp2_with (go_at_call 42; (with_reducible refine dK.mono ?_); rintro e w3 ⟨rfl, hb3⟩
                       have hq0 := (hb3.cell (p := ⟨wr.heap.size, 0, none⟩) (by simp)).trans hN2.1
                       have hq1 := (hb3.cell (p := ⟨wr.heap.size, 1, none⟩) (by simp)).trans hN2.2
                       have hown3 := (hownr.alloc (.cells #[.string x.1, .string x.2] 41)).kept (grown_below hb3) (own_none _)
                       have hfz0 := hown3.frozenAt (i * 2)
                       have hfz1 := hown3.frozenAt (i * 2 + 1)
                       obtain ⟨o0, hco0⟩ : ∃ o, w3.cell? ⟨g, i * 2, none⟩ = some o := by
                         rw [hown3.cellAt (i * 2) (by omega)]
                         exact ⟨_, List.getElem?_eq_getElem (by rw [hown3.1]; omega)⟩
                       obtain ⟨o1, hco1⟩ : ∃ o, w3.cell? ⟨g, i * 2 + 1, none⟩ = some o := by
                         rw [hown3.cellAt (i * 2 + 1) (by omega)]
                         exact ⟨_, List.getElem?_eq_getElem (by rw [hown3.1]; omega)⟩
                       replace hb3 := Lib.hid hb3
                       replace hown3 := Lib.hid hown3)
          go_roundw
          case rel =>
            refine ⟨i + 1, j + 1, dk.set i x, by go_num, by go_num, by omega, by omega, hD2, ?_, ?_⟩
            · rw [flat_set]
              exact (((hown3.out).stored (i * 2) (.string x.1)).1.stored (i * 2 + 1) (.string x.2)).1
            · exact ((((hb.alloc (by omega) _).trans (hb3.out.mono (by simp; omega))).setCell (p := ⟨g, i * 2, none⟩) hbg _).setCell (p := ⟨g, i * 2 + 1, none⟩) hbg _)
          case measure => simp [intOf]; omega
      · have hjl : j = xs.length := by omega
        subst hjl
        have hcl : ∀ ty, (Builtin.clear_ #[32] ty #[.slice (some ⟨g, i * 2, none⟩) (xs.length - i) (cap - i)]).run Tryz.prog wr = .ok (.tuple #[]) (wr.setCells g (i * 2) (List.replicate ((xs.length - i) * 2) (.string ⟨#[]⟩))) := fun ty =>
          run_clear_two wr _ _ ty Tryz.underlying32 zeroFld g (i * 2) _ _ (by omega) (fun t ht => by rw [hownr.cellAt (i * 2 + t) (by omega), List.getElem?_eq_getElem (by rw [hownr.1]; omega)]; rfl) (fun t ht => hownr.frozenAt _)
        obtain ⟨L', ho', hL', hbS⟩ := stored_all hbg (List.replicate ((xs.length - i) * 2) (.string ⟨#[]⟩)) (i * 2) wr _ hownr
        have hpre := ownsRow_prefix (k := i) ho' (by omega)
        rw [hL' _ (Nat.le_refl _), flat_take] at hpre
        obtain ⟨e1, e2⟩ := hD.out.done
        have z2 : (i : Int) < (xs.length : Int) := by omega
        have z3 : (i : Int) ≤ (cap : Int) := by omega
        have z4 : (0 : Int) ≤ (i : Int) := by omega
        have z5 : (xs.length : Int) ≤ (cap : Int) := by omega
        have z6 : (i : Int) ≤ (xs.length : Int) := by omega
        rw [e1] at hpre
        have hfin : (wr.setCells g (i * 2) (List.replicate ((xs.length - i) * 2) (.string ⟨#[]⟩))).ownsRow base 41 2 (.slice (some ⟨g, 0, none⟩) i cap) (xs.filter (fun x => !anyF ts x)).length ((xs.filter (fun x => !anyF ts x)).flatMap fldV) := by rw [e2]; exact hpre
        have hbF := hb.trans hbS
        clear hpre e1 e2 ho' hL' hbS
        generalize wr.setCells g (i * 2) (List.replicate ((xs.length - i) * 2) (.string ⟨#[]⟩)) = wF at *
        go_wp2
        go_ret
        exact ⟨_, rfl, hfin, hbF⟩
end Go.Proofs.YthedoophopilgaaGreatDoor.Rw
