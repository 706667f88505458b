/- The document's sum. -/
import Derived.Test.YtiamkhhnnlgemaaDoorSipC
namespace Go.Proofs.YtiamkhhnnlgemaaDoor.Sip
open Go.RowKit
set_option linter.unusedVariables false
def S4Row (w : World) (g : Nat) (v : S4) : Prop := Row4 w g (.int .u64 v.a) (.int .u64 v.b) (.int .u64 v.c) (.int .u64 v.d) 92
theorem wordL (l : List UInt8) (hl : l.length ≤ 8) (w : World) : Calls Tryd.prog 40 #[.string (mk l)] w fun e w' => e = .returned (.int .u64 (le l)) ∧ Below w.heap.size w w' :=
  (refWord_any (mk l) (by rw [mk_size]; exact hl) w).mono fun e w' ⟨h1, n, h2⟩ => ⟨h1, by rw [h2]; exact drewBelow (Below.refl _ _)⟩
theorem ba_cut (s : ByteArray) (f i : Nat) : s.extract f i = mk ((s.data.toList.take i).drop f) := by
  apply Go.WideShapes.bytes_inj
  simp [List.drop_take, mk]
theorem wordX (s : ByteArray) (f i : Nat) (h : i - f ≤ 8) (w : World) : Calls Tryd.prog 40 #[.string (s.extract f i)] w fun e w' => e = .returned (.int .u64 (le ((s.data.toList.take i).drop f))) ∧ Below w.heap.size w w' := by
  rw [ba_cut]
  exact wordL _ (by rw [List.length_drop, List.length_take]; omega) w
theorem wordAt {l : List UInt8} {u : S4} {B g : Nat} {w wr : World} (hR : S4Row wr B u) (hg : g ≤ w.heap.size) (hb : Below g w wr) : Calls Tryd.prog 40 #[.string ((mk l).extract 0 8)] wr.drew fun e w' => e = .returned (.int .u64 (le (l.take 8))) ∧ S4Row w' B u ∧ Below g w w' :=
  (wordX (mk l) 0 8 (by decide) wr.drew).mono fun e w' ⟨h1, h2⟩ => ⟨h1, Row4.below (w := wr.drew) hR h2, (Below.drew hb).trans (h2.mono (Nat.le_trans hg (Below.drew hb).size))⟩
theorem takeAt {u v : S4} {m : Int} {B g : Nat} {w wr : World} (hR : S4Row wr B u) (hg : g ≤ w.heap.size) (hb : Below g w wr) : Calls Tryd.prog 41 #[s4V v, .int .u64 m] wr fun e w' => e = .returned (s4V (takeI v m)) ∧ S4Row w' B u ∧ Below g w w' :=
  (refTake_any v m wr).mono fun e w' ⟨h1, h2⟩ => ⟨h1, hR.below h2, hb.trans (h2.mono (Nat.le_trans hg hb.size))⟩
theorem wordAll {l : List UInt8} {u : S4} {B g : Nat} {w wr : World} (hl : l.length ≤ 8) (hR : S4Row wr B u) (hg : g ≤ w.heap.size) (hb : Below g w wr) : Calls Tryd.prog 40 #[.string (mk l)] wr.drew fun e w' => e = .returned (.int .u64 (le l)) ∧ S4Row w' B u ∧ Below g w w' :=
  (wordL l hl wr.drew).mono fun e w' ⟨h1, h2⟩ => ⟨h1, Row4.below (w := wr.drew) hR h2, (Below.drew hb).trans (h2.mono (Nat.le_trans hg (Below.drew hb).size))⟩
theorem ext_drop (s : ByteArray) (i : Nat) : s.extract i s.size = mk (s.data.toList.drop i) := by
  rw [ba_cut, List.take_of_length_le (by simp)]
def iterR : Nat → S4 → S4
  | 0, v => v
  | k + 1, v => roundI (iterR k v)
theorem iterR_succ (k : Nat) (v : S4) : iterR (k + 1) v = roundI (iterR k v) := rfl
theorem endI_iter (v : S4) (l : List UInt8) (n : Nat) : endI v l n =
    xorI (xorI (xorI (iterR 4 { takeI v ((le l + (n % 256) * 2 ^ 56 : Nat) : Int) with c := xorI (takeI v ((le l + (n % 256) * 2 ^ 56 : Nat) : Int)).c 255 }).a (iterR 4 { takeI v ((le l + (n % 256) * 2 ^ 56 : Nat) : Int) with c := xorI (takeI v ((le l + (n % 256) * 2 ^ 56 : Nat) : Int)).c 255 }).b) (iterR 4 { takeI v ((le l + (n % 256) * 2 ^ 56 : Nat) : Int) with c := xorI (takeI v ((le l + (n % 256) * 2 ^ 56 : Nat) : Int)).c 255 }).c) (iterR 4 { takeI v ((le l + (n % 256) * 2 ^ 56 : Nat) : Int) with c := xorI (takeI v ((le l + (n % 256) * 2 ^ 56 : Nat) : Int)).c 255 }).d := rfl
theorem last_word (l : List UInt8) (h : ¬ 8 ≤ l.length) (n : Nat) : IntKind.u64.wrap (((le l : Nat) : Int) + IntKind.u64.wrap (IntKind.u64.wrap ((n : Int).tmod 256) * 72057594037927936)) = ((le l + (n % 256) * 2 ^ 56 : Nat) : Int) := by
  have h1 := le_lt l
  have h2 : 256 ^ l.length ≤ 256 ^ 7 := Nat.pow_le_pow_right (by decide) (by omega)
  have h3 : le l < 72057594037927936 := Nat.lt_of_lt_of_le h1 h2
  have h4 : (n : Int).tmod 256 = ((n % 256 : Nat) : Int) := rfl
  have h5 : n % 256 < 256 := Nat.mod_lt _ (by decide)
  rw [h4]
  generalize n % 256 = q at *
  have w : ∀ z : Int, 0 ≤ z → z < 18446744073709551616 → IntKind.u64.wrap z = z := by
    intro z h0 h1
    simp [IntKind.wrap, IntKind.bits, IntKind.signed]; omega
  rw [w (q : Int) (by omega) (by omega), w ((q : Int) * 72057594037927936) (by omega) (by omega), w _ (by omega) (by omega)]
  have e : (2 : Nat) ^ 56 = 72057594037927936 := by decide
  rw [e]; omega
theorem roundAt {u : S4} {B g : Nat} {w wr : World} (v : S4) (hR : S4Row wr B u) (hg : g ≤ w.heap.size) (hb : Below g w wr) : Calls Tryd.prog 42 #[s4V v] wr fun e w' => e = .returned (s4V (roundI v)) ∧ S4Row w' B u ∧ Below g w w' :=
  (refRound_any v wr).mono fun e w' ⟨h1, h2⟩ => ⟨h1, hR.below h2, hb.trans (h2.mono (Nat.le_trans hg hb.size))⟩
set_option maxRecDepth 100000 in
set_option maxHeartbeats 4000000 in
theorem refSum_any (k : ByteArray) (l0 : List UInt8) (hk : k.size = 16) (hl : l0.length ≤ 1000000) (w : World) :
    Calls Tryd.prog 27 #[.string k, .string (mk l0)] w fun e w' => e = .returned (.int .u64 (sumI k.data.toList l0)) ∧ Below w.heap.size w w' := by
  have d1 := wordX k 0 8 (by decide)
  have d2 := wordX k 8 16 (by decide)
  have hsz := mk_size l0
  have hx := Lib.hid (show startI k.data.toList = ⟨xorI (le (k.data.toList.take 8)) 0x736f6d6570736575, xorI (le ((k.data.toList.take 16).drop 8)) 0x646f72616e646f6d, xorI (le (k.data.toList.take 8)) 0x6c7967656e657261, xorI (le ((k.data.toList.take 16).drop 8)) 0x7465646279746573⟩ by
    unfold startI; rw [List.drop_take])
  have hS := Lib.hid (show sumI k.data.toList l0 = endI (blocks (startI k.data.toList) l0).1 (blocks (startI k.data.toList) l0).2 l0.length from rfl)
  generalize sumI k.data.toList l0 = R at *
  generalize startI k.data.toList = v0 at *
  rw [List.drop_zero] at d1
  generalize le (k.data.toList.take 8) = x at *
  generalize le ((k.data.toList.take 16).drop 8) = y at *
  go_enter Tryd.func27, Tryd.ntmps27
  go_wp2_with (first
    | (go_at_call 40; with_reducible refine (d1 _).mono ?_; rintro e w1 ⟨rfl, hb⟩; have hB := Lib.hid hb; clear hb)
    | (go_at_call 40; with_reducible refine (d2 _).mono ?_; rintro e w2 ⟨rfl, hb⟩; replace hB := Lib.hid (hB.out.trans (hb.mono hB.out.size)); clear hb))
  have hR0 : S4Row (w2.alloc (.cells #[.int .u64 (xorI x 0x736f6d6570736575), .int .u64 (xorI y 0x646f72616e646f6d), .int .u64 (xorI x 0x6c7967656e657261), .int .u64 (xorI y 0x7465646279746573)] 92)) w2.heap.size v0 := by rw [hx.out]; exact row4_new _ _ _ _ _ _
  have hB0 : Below w.heap.size w (w2.alloc (.cells #[.int .u64 (xorI x 0x736f6d6570736575), .int .u64 (xorI y 0x646f72616e646f6d), .int .u64 (xorI x 0x6c7967656e657261), .int .u64 (xorI y 0x7465646279746573)] 92)) := hB.out.alloc hB.out.size _
  have hgB : w.heap.size ≤ w2.heap.size := hB.out.size
  simp only [xorI] at hR0 hB0
  generalize w2.alloc (.cells #[.int .u64 (bits .xor .u64 x 0x736f6d6570736575), .int .u64 (bits .xor .u64 y 0x646f72616e646f6d), .int .u64 (bits .xor .u64 x 0x6c7967656e657261), .int .u64 (bits .xor .u64 y 0x7465646279746573)] 92) = W0 at *
  generalize w2.heap.size = B at *
  generalize hg : w.heap.size = g at *
  have hgg : g ≤ w.heap.size := by omega
  clear hB
  go_loopw [1] (fun sv wr => ∃ (l : List UInt8) (u : S4), sv = .string (mk l) ∧ l.length ≤ l0.length ∧ Hid (blocks u l = blocks v0 l0) ∧ S4Row wr B u ∧ Below g w wr) (fun sv _ => match sv with | .string t => t.size | _ => 0)
  case atStart => exact ⟨l0, v0, rfl, Nat.le_refl _, Lib.hid rfl, hR0, hB0⟩
  case round =>
    obtain ⟨l, u, rfl, hll, hbl, hR, hbw⟩ := hrel
    clear hR0 hB0 d1 d2 hsz
    by_cases h8 : 8 ≤ l.length
    · have hge : (8 : Int) ≤ ((mk l).size : Int) := by rw [mk_size]; omega
      have hge2 : ¬ ((mk l).size : Int) < 8 := by omega
      have d3 := wordAt (l := l) hR hgg hbw
      have d4 := fun (w3 : World) (h : S4Row w3 B u) (h2 : Below g w w3) => takeAt (v := u) (m := le (l.take 8)) h hgg h2
      have hbl2 := Lib.hid (show blocks (takeI u (le (l.take 8))) (l.drop 8) = blocks v0 l0 by rw [← hbl.out, blocks_ge u l h8])
      generalize takeI u (le (l.take 8)) = u2 at *
      generalize le (l.take 8) = m at *
      unfold s4V at d4
      obtain ⟨c0, c1, c2, c3, f0, f1, f2, f3⟩ := hR.cells
      have hlt := hR.lt
      go_wp2_with fail
      replace d4 := Lib.hid d4
      go_region_with (first
        | (go_at_call 40; refine d3.mono ?_; rintro e w3 ⟨rfl, hR3, hB3⟩; obtain ⟨i0, i1, i2, i3, j0, j1, j2, j3⟩ := hR3.cells; have hlt3 := hR3.lt)
        | (go_at_call 41; refine (d4.out _ hR3 hB3).mono ?_; rintro e w4 ⟨rfl, hR4, hB4⟩; obtain ⟨k0, k1, k2, k3, p0, p1, p2, p3⟩ := hR4.cells; have hlt4 := hR4.lt))
      all_goals go_wp2
      all_goals go_roundw
      all_goals first
        | (refine ⟨l.drop 8, u2, by rw [ext_drop]; rfl, by rw [List.length_drop]; omega, hbl2, hR4.sets _ _ _ _, ?_⟩
           (repeat' (first | with_reducible exact hB4 | with_reducible refine Below.setCell ?_ (by simp; omega) _)))
        | (show ((mk l).extract 8 (mk l).size).size < (mk l).size; rw [ByteArray.size_extract]; omega)
    · have hlt : ((mk l).size : Int) < 8 := by rw [mk_size]; omega
      have hbE := Lib.hid (show blocks v0 l0 = (u, l) by rw [← hbl.out, blocks_end u l h8])
      have d3 := wordAll (l := l) (by omega) hR hgg hbw
      have hM := last_word l h8 l0.length
      have hE := Lib.hid (show R = endI u l l0.length by rw [hS.out, hbE.out])
      have hI := endI_iter u l l0.length
      generalize ((le l + (l0.length % 256) * 2 ^ 56 : Nat) : Int) = M at *
      have d4 := fun (w3 : World) (h : S4Row w3 B u) (h2 : Below g w w3) => takeAt (v := u) (m := M) h hgg h2
      generalize takeI u M = u2 at *
      unfold s4V at d4
      replace d4 := Lib.hid d4
      replace hI := Lib.hid hI
      obtain ⟨c0, c1, c2, c3, f0, f1, f2, f3⟩ := hR.cells
      have hlt := hR.lt
      go_wp2_with fail
      go_region_with (first
        | (go_at_call 40; refine d3.mono ?_; rintro e w3 ⟨rfl, hR3, hB3⟩; obtain ⟨i0, i1, i2, i3, j0, j1, j2, j3⟩ := hR3.cells; have hlt3 := hR3.lt)
        | (go_at_call 41; (try rw [hM]); refine (d4.out _ hR3 hB3).mono ?_; rintro e w4 ⟨rfl, hR4, hB4⟩; obtain ⟨k0, k1, k2, k3, p0, p1, p2, p3⟩ := hR4.cells; have hlt4 := hR4.lt))
      all_goals go_wp2
      all_goals (
        go_loopw [9] (fun i wr2 => ∃ (k : Nat) (v4 : S4), k ≤ 4 ∧ i = .int .i64 k ∧ Hid (v4 = iterR k { u2 with c := xorI u2.c 255 }) ∧ S4Row wr2 B v4 ∧ Below g w wr2) (fun i _ => 4 - (intOf i).toNat)
        case atStart =>
          refine ⟨0, { u2 with c := xorI u2.c 255 }, by omega, rfl, Lib.hid rfl, Row4.set2 (T := 92) (hR4.sets _ _ _ _) _, ?_⟩
          (repeat' (first | with_reducible exact hB4 | with_reducible refine Below.setCell ?_ (by simp; omega) _))
        case round =>
          obtain ⟨q, v4, hq, rfl, hv4, hRq, hBq⟩ := hrel
          clear c0 c1 c2 c3 f0 f1 f2 f3 i0 i1 i2 i3 j0 j1 j2 j3 k0 k1 k2 k3 p0 p1 p2 p3 hR4 hR3 hB3 hB4
          by_cases h4 : q < 4
          · have d5 := roundAt v4 hRq hgg hBq
            have hv5 := Lib.hid (show roundI v4 = iterR (q + 1) { u2 with c := xorI u2.c 255 } by rw [iterR_succ, ← hv4.out])
            obtain ⟨c0, c1, c2, c3, f0, f1, f2, f3⟩ := hRq.cells
            have hltq := hRq.lt
            generalize roundI v4 = v5 at *
            unfold s4V at d5
            go_wp2_with (go_at_call 42; refine d5.mono ?_; rintro e w5 ⟨rfl, hR5, hB5⟩; clear c0 c1 c2 c3 f0 f1 f2 f3; obtain ⟨c0, c1, c2, c3, f0, f1, f2, f3⟩ := hR5.cells; have hlt5 := hR5.lt)
            go_roundw
            case rel => exact ⟨q + 1, v5, by omega, by go_num, hv5, Row4.sets (T := 92) hR5 _ _ _ _, by (repeat' (first | with_reducible exact hB5 | with_reducible refine Below.setCell ?_ (by simp; omega) _))⟩
            case measure => first | (simp [intOf]; done) | (simp [intOf]; omega)
          · have hq4 : q = 4 := by omega
            subst hq4
            have hF0 := hE.out.trans hI.out
            rw [← hv4.out] at hF0
            simp only [xorI] at hF0
            have hF := Lib.hid hF0
            clear hF0
            obtain ⟨c0, c1, c2, c3, f0, f1, f2, f3⟩ := hRq.cells
            go_wp2_with fail
            go_ret
            exact ⟨by rw [hF.out]; rfl, by rw [hg]; exact hBq⟩)
end Go.Proofs.YtiamkhhnnlgemaaDoor.Sip
