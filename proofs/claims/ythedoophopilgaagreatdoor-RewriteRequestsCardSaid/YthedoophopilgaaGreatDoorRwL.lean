/- fields.Fields.Add; response.Own and rewrite.Own at one code. -/
import Derived.Test.YthedoophopilgaaGreatDoorRwK
namespace Go.Proofs.YthedoophopilgaaGreatDoor.Rw
open Go.RowKit Go.Proofs.YthedoophopilgaaGreatDoor.Oct
set_option linter.unusedVariables false
def Blk (w : World) (b : Nat) (cs : Array Value) (T : TypeId) : Prop := w.heap[b]? = some (.cells cs T (0, 0))
theorem Blk.lt {w : World} {b : Nat} {cs : Array Value} {T : TypeId} (h : Blk w b cs T) : b < w.heap.size := (Array.getElem?_eq_some_iff.1 h).1
theorem Blk.below {w w' : World} {b : Nat} {cs : Array Value} {T : TypeId} (h : Blk w b cs T) (hB : Below w.heap.size w w') : Blk w' b cs T := (hB.block b h.lt).trans h
theorem Blk.grown {w w' : World} {b : Nat} {cs : Array Value} {T : TypeId} (h : Blk w b cs T) {ob : Option Nat} (hg : w.grownBy w' ob) (hne : some b ≠ ob) : Blk w' b cs T := (hg.block b h.lt hne).trans h
theorem Blk.new (w : World) (cs : Array Value) (T : TypeId) : Blk (w.alloc (.cells cs T)) w.heap.size cs T := heap_alloc_new w _
theorem Blk.cell {w : World} {b i : Nat} {cs : Array Value} {T : TypeId} {v : Value} (h : Blk w b cs T) (hi : cs[i]? = some v) : w.cell? ⟨b, i, none⟩ = some v := (cell_of_row _ b i _ _ _ h).trans hi
theorem Blk.free {w : World} {b i : Nat} {cs : Array Value} {T : TypeId} (h : Blk w b cs T) : w.frozen? ⟨b, i, none⟩ = false := by
  simp [World.frozen?, show w.heap[b]? = _ from h]
theorem Blk.set {w : World} {b i : Nat} {cs : Array Value} {T : TypeId} (h : Blk w b cs T) (v : Value) : Blk (w.setCell ⟨b, i, none⟩ v) b (cs.setIfInBounds i v) T := by
  have h' : w.heap[b]? = some (.cells cs T (0, 0)) := h
  show (w.setCell ⟨b, i, none⟩ v).heap[b]? = _
  simp [World.setCell, Array.getElem?_modify, h']
theorem Blk.far {w : World} {b c i : Nat} {cs : Array Value} {T : TypeId} (h : Blk w b cs T) (v : Value) (hne : b ≠ c) : Blk (w.setCell ⟨c, i, none⟩ v) b cs T := (Below.heap_setCell w ⟨c, i, none⟩ v b hne).trans h
theorem results_cell {fn : Func} {p : Tmp} {ty : TypeId} (h : fn.results = #[.cell p ty]) (tmps : Array Value) (P : Program) (w : World) :
    (results fn tmps).run P w = ((asAddr (tmps.getD p undef)).run P w).andThen fun a w₁ => (loadVar ty a).run P w₁ := by
  simp only [results, h]
  simp [Sem.run_bind, Result.andThen]
theorem cat_run (a b : ByteArray) (h : a.size + b.size ≤ 9223372036854775807) (W : World) : (Op.stringOp .add a b).run Tryz.prog W = .ok (.string (a ++ b)) W := by
  unfold Op.stringOp
  simp only
  rw [if_neg (by show ¬ ((a.size + b.size : Nat) : Int) > 9223372036854775807; omega)]
  rfl
set_option maxHeartbeats 2000000 in
theorem add_any (xs : List Fld) (nm val : ByteArray) (v : Value) (w : World) (hF : FldsB w v xs) (hM : xs.length ≤ 100000) :
    Calls Tryz.prog 16 #[v, .string nm, .string val] w fun e w' => ∃ u, e = .returned u ∧ OwnF 41 w' w.heap.size u (xs ++ [(nm, val)]) ∧ Below w.heap.size w w' := by
  obtain ⟨i0, hi, hz0, hz1, hz2⟩ := info_parts infoF
  have dC := clone_any xs v w hF (by omega)
  have hL := Lib.hid (show (xs ++ [(nm, val)]).flatMap fldV = xs.flatMap fldV ++ [.string nm, .string val] by rw [List.flatMap_append]; rfl)
  unfold OwnF at dC ⊢
  clear hF
  go_enter Tryz.func16, Tryz.ntmps16
  go_wp2_with (first
    | (go_at_call 33; (with_reducible refine dC.mono ?_); rintro e w1 ⟨u1, rfl, ho1, hb1⟩)
    | (at_builtin; refine wpList_append_own _ rfl _ _ 32 rfl w.heap.size 41 i0 _ 2 32 Tryz.underlying32 hi hz0 hz1 hz2 rfl (by decide) _ _ _ rfl (ho1.alloc _) ⟨_, 0, none⟩ 1 1 [.string nm, .string val] rfl rfl (World.news_of_block (heap_alloc_new w1 _)) (by simp [Value.oneCell']) (by unfold maxLen; omega) (by omega) (by have := hb1.size; simp; omega) ?_; intro v' w4 hown' hgrow _))
  go_ret
  refine ⟨_, rfl, ?_, grow_low (hb1.alloc hb1.size _) (by have := hb1.size; simp; omega) hgrow (fun b e => (ho1.lt b e).1)⟩
  rw [hL.out, List.length_append]
  exact hown'
set_option maxHeartbeats 2000000 in
theorem closes_any (xs : List Fld) (v : Value) (w : World) (hF : FldsB w v xs) (hM : xs.length ≤ 100000) :
    Calls Tryz.prog 29 #[v, .bool true] w fun e w' => ∃ u, e = .returned u ∧ OwnF 41 w' w.heap.size u (xs ++ [(connS, ⟨#[99, 108, 111, 115, 101]⟩)]) ∧ Below w.heap.size w w' := by
  have dA := add_any xs ⟨#[67, 111, 110, 110, 101, 99, 116, 105, 111, 110]⟩ ⟨#[99, 108, 111, 115, 101]⟩ v w hF hM
  rw [show connS = ⟨#[67, 111, 110, 110, 101, 99, 116, 105, 111, 110]⟩ from rfl]
  generalize xs ++ [_] = R at *
  go_enter Tryz.func29, Tryz.ntmps29
  go_wp2_with (go_at_call 16; (with_reducible refine dA.mono ?_); rintro e w1 ⟨u1, rfl, ho1, hb1⟩)
  go_ret
  exact ⟨_, rfl, ho1, hb1⟩
def ctypeS : ByteArray := ⟨#[67, 111, 110, 116, 101, 110, 116, 45, 84, 121, 112, 101]⟩
def plainS : ByteArray := ⟨#[116, 101, 120, 116, 47, 112, 108, 97, 105, 110]⟩
def clenN : ByteArray := ⟨#[67, 111, 110, 116, 101, 110, 116, 45, 76, 101, 110, 103, 116, 104]⟩
theorem r503 : (reasonS 503).size ≤ 100 ∧ (decS 503).size ≤ 100 := by decide +kernel
set_option maxHeartbeats 4000000 in
theorem respOwn_any (w : World) (he : SEnv w) :
    Calls Tryz.prog 28 #[.int .i64 503] w fun e w' => ∃ (u : Value) (rs body d : ByteArray), e = .returned (.agg #[.int .i64 503, .string rs, u, .string body, .int .i64 1]) ∧ OwnF 41 w' w.heap.size u [(ctypeS, plainS), (clenN, d)] ∧ Below w.heap.size w w' := by
  obtain ⟨hr, hd⟩ := r503
  have dR := fun W h => reason_any 503 W h
  have dD := fun W h => digits_any 503 (by decide) W h
  have dN := fun (n : Nat) (hn : n ≤ 1000) W h => digits_any (n : Int) (by omega) W h
  generalize reasonS 503 = rs at *
  generalize decS 503 = ds at *
  have z1 : (ds ++ ⟨#[32]⟩ : ByteArray).size ≤ 101 := by rw [ByteArray.size_append]; show ds.size + 1 ≤ 101; omega
  have z2 : ((ds ++ ⟨#[32]⟩ : ByteArray) ++ rs).size ≤ 201 := by rw [ByteArray.size_append]; omega
  have z3 : (((ds ++ ⟨#[32]⟩ : ByteArray) ++ rs) ++ ⟨#[10]⟩).size ≤ 1000 := by rw [ByteArray.size_append]; show _ + 1 ≤ _; omega
  have k1 := cat_run ds ⟨#[32]⟩ (by show ds.size + 1 ≤ _; omega)
  have k2 := cat_run (ds ++ ⟨#[32]⟩ : ByteArray) rs (by omega)
  have k3 := cat_run ((ds ++ ⟨#[32]⟩ : ByteArray) ++ rs) ⟨#[10]⟩ (by show _ + 1 ≤ _; omega)
  generalize ((ds ++ ⟨#[32]⟩ : ByteArray) ++ rs) ++ ⟨#[10]⟩ = b3 at *
  generalize (ds ++ ⟨#[32]⟩ : ByteArray) ++ rs = b2 at *
  generalize (ds ++ ⟨#[32]⟩ : ByteArray) = b1 at *
  have hB := (Below.refl _ w).alloc (Nat.le_refl _) (.cells #[.int .i64 0, .string ⟨#[]⟩, .slice none 0 0, .string ⟨#[]⟩, .int .i64 0] 45)
  go_enter Tryz.func28, Tryz.ntmps28
  go_wp2_with (first
    | (go_at_call 45; (with_reducible refine (dR _ (he.below hB)).mono ?_); rintro e w1 ⟨rfl, hb1⟩; have hbB := hB.trans (hb1.mono (by simp)); have he1 := (he.below hbB).toEnv)
    | (go_at_call 34; first
        | ((with_reducible refine (dD _ he1).mono ?_); rintro e w2 ⟨rfl, hb2⟩; have he2 := he1.below hb2)
        | ((with_reducible refine (dN _ z3 _ he2).mono ?_); rintro e w3 ⟨rfl, hb3⟩; have bS := (((Blk.new w #[.int .i64 0, .string ⟨#[]⟩, .slice none 0 0, .string ⟨#[]⟩, .int .i64 0] 45).below hb1).below hb2).below hb3; have c0 := bS.cell (i := 0) rfl; have c1 := bS.cell (i := 1) rfl; have c2 := bS.cell (i := 2) rfl; have c3 := bS.cell (i := 3) rfl; have c4 := bS.cell (i := 4) rfl; have f0 := bS.free (i := 0); have f1 := bS.free (i := 1); have f2 := bS.free (i := 2); have f3 := bS.free (i := 3); have f4 := bS.free (i := 4); have hlt := bS.lt)))
  have hbW : Below w.heap.size w w3 := hbB.trans ((hb2.trans (hb3.mono hb2.size)).mono hbB.size)
  have hbF := ((((hbW.setCell (p := ⟨w.heap.size, 0, none⟩) (Nat.le_refl _) (.int .i64 503)).setCell (p := ⟨w.heap.size, 1, none⟩) (Nat.le_refl _) (.string rs)).setCell (p := ⟨w.heap.size, 2, none⟩) (Nat.le_refl _) (.slice (some ⟨w3.heap.size, 0, none⟩) 2 2)).setCell (p := ⟨w.heap.size, 3, none⟩) (Nat.le_refl _) (.string b3)).setCell (p := ⟨w.heap.size, 4, none⟩) (Nat.le_refl _) (.int .i64 1)
  have hsF : (((((w3.setCell ⟨w.heap.size, 0, none⟩ (.int .i64 503)).setCell ⟨w.heap.size, 1, none⟩ (.string rs)).setCell ⟨w.heap.size, 2, none⟩ (.slice (some ⟨w3.heap.size, 0, none⟩) 2 2)).setCell ⟨w.heap.size, 3, none⟩ (.string b3)).setCell ⟨w.heap.size, 4, none⟩ (.int .i64 1)).heap.size = w3.heap.size := by simp [World.setCell]
  have bF := ((((bS.set (i := 0) (.int .i64 503)).set (i := 1) (.string rs)).set (i := 2) (.slice (some ⟨w3.heap.size, 0, none⟩) 2 2)).set (i := 3) (.string b3)).set (i := 4) (.int .i64 1)
  generalize (((((w3.setCell ⟨w.heap.size, 0, none⟩ (.int .i64 503)).setCell ⟨w.heap.size, 1, none⟩ (.string rs)).setCell ⟨w.heap.size, 2, none⟩ (.slice (some ⟨w3.heap.size, 0, none⟩) 2 2)).setCell ⟨w.heap.size, 3, none⟩ (.string b3)).setCell ⟨w.heap.size, 4, none⟩ (.int .i64 1)) = WF at *
  have ho := World.ownsRow_lit (base := w.heap.size) (e := 41) (size := 2) WF #[.string ctypeS, .string plainS, .string clenN, .string (decS b3.size)] 2 (by omega) (by unfold maxLen; omega) rfl
  rw [hsF] at ho
  have bA := bF.below ((Below.refl _ WF).alloc (Nat.le_refl _) (.cells #[.string ctypeS, .string plainS, .string clenN, .string (decS b3.size)] 41))
  have g0 := bA.cell (i := 0) rfl
  have g1 := bA.cell (i := 1) rfl
  have g2 := bA.cell (i := 2) rfl
  have g3 := bA.cell (i := 3) rfl
  have g4 := bA.cell (i := 4) rfl
  refine bodyPost_ret (v := .agg #[.int .i64 503, .string rs, .slice (some ⟨w3.heap.size, 0, none⟩) 2 2, .string b3, .int .i64 1]) ?_ rfl ⟨_, rs, b3, decS b3.size, rfl, ho, hbF.alloc (by omega) _⟩
  unfold ctypeS plainS clenN at g0 g1 g2 g3 g4
  clear c0 c1 c2 c3 c4 f0 f1 f2 f3 f4
  rw [results_cell rfl]; go_simp
set_option maxRecDepth 100000 in
set_option maxHeartbeats 4000000 in
theorem rewOwn_any (w : World) (he : SEnv w) :
    Calls Tryz.prog 12 #[.int .i64 503, .string ⟨#[71, 69, 84]⟩, .bool true] w fun e w' => ∃ (u : Value) (rs body d : ByteArray), e = .returned (.agg #[.int .i64 503, .string rs, u, .string body, .int .i64 1]) ∧ OwnF 41 w' w.heap.size u [(ctypeS, plainS), (clenN, d), (connS, ⟨#[99, 108, 111, 115, 101]⟩)] ∧ Below w.heap.size w w' := by
  have hB := (Below.refl _ w).alloc (Nat.le_refl _) (.cells #[.int .i64 0, .string ⟨#[]⟩, .slice none 0 0, .string ⟨#[]⟩, .int .i64 0] 45)
  have dO := respOwn_any _ (he.below hB)
  have hz0 : w.heap.size < (w.alloc (.cells #[.int .i64 0, .string ⟨#[]⟩, .slice none 0 0, .string ⟨#[]⟩, .int .i64 0] 45)).heap.size := by simp
  have bR := Blk.new w #[.int .i64 0, .string ⟨#[]⟩, .slice none 0 0, .string ⟨#[]⟩, .int .i64 0] 45
  go_enter Tryz.func12, Tryz.ntmps12
  go_wp2_with (go_at_call 28; (with_reducible refine dO.mono ?_); rintro e w1 ⟨u1, rs, body, d, rfl, ho1, hb1⟩; obtain ⟨A1, c1, rfl⟩ := row_slice ho1; have bR1 := bR.below hb1; have hsz1 := bR1.lt; replace hb1 := Lib.hid hb1; replace bR1 := Lib.hid bR1)
  have hbA := (Below.refl _ w1).alloc (Nat.le_refl _) (.cells #[.int .i64 503, .string rs, .slice A1 2 c1, .string body, .int .i64 1] 45)
  have bM := Blk.new w1 #[.int .i64 503, .string rs, .slice A1 2 c1, .string body, .int .i64 1] 45
  have bR2 := bR1.out.below hbA
  have dC := closes_any _ _ _ (ho1.fldsB.below hbA) (by show 2 ≤ 100000; omega)
  have hbW2 : Below w.heap.size w (w1.alloc (.cells #[.int .i64 503, .string rs, .slice A1 2 c1, .string body, .int .i64 1] 45)) := hB.trans ((hb1.out.trans (hbA.mono hb1.out.size)).mono (by simp))
  have hsW := hbW2.size
  generalize w1.alloc (.cells #[.int .i64 503, .string rs, .slice A1 2 c1, .string body, .int .i64 1] 45) = W2 at *
  have hbm := hbW2.size
  refine (dC).mono ?_
  rintro e w3 ⟨u3, rfl, ho3, hb3⟩
  obtain ⟨A3, c3, rfl⟩ := row_slice ho3
  have hbl1 := bM.lt
  have hbl2 := bR2.lt
  have bM3 := bM.below hb3
  have bR3 := bR2.below hb3
  have hs13 : w1.heap.size < w3.heap.size := bM3.lt
  have m0 := bM3.cell (i := 0) rfl
  have m1 := bM3.cell (i := 1) rfl
  have m2 := bM3.cell (i := 2) rfl
  have m3 := bM3.cell (i := 3) rfl
  have m4 := bM3.cell (i := 4) rfl
  have fm2 := bM3.free (i := 2)
  have r0 := bR3.cell (i := 0) rfl
  have r1 := bR3.cell (i := 1) rfl
  have r2 := bR3.cell (i := 2) rfl
  have r3 := bR3.cell (i := 3) rfl
  have r4 := bR3.cell (i := 4) rfl
  have f0 := bR3.free (i := 0)
  have f1 := bR3.free (i := 1)
  have f2 := bR3.free (i := 2)
  have f3 := bR3.free (i := 3)
  have f4 := bR3.free (i := 4)
  clear hbA dC dO hz0 bR bR1 bR2 bM hb1
  go_wp2
  have hbW3 : Below w.heap.size w w3 := hbW2.trans (hb3.mono hsW)
  have hle : w.heap.size ≤ w1.heap.size := Nat.le_of_lt hsz1
  have hbF := ((((((hbW3.setCell (p := ⟨w1.heap.size, 2, none⟩) hle (.slice A3 3 c3)).setCell (p := ⟨w.heap.size, 0, none⟩) (Nat.le_refl _) (.int .i64 503)).setCell (p := ⟨w.heap.size, 1, none⟩) (Nat.le_refl _) (.string rs)).setCell (p := ⟨w.heap.size, 2, none⟩) (Nat.le_refl _) (.slice A3 3 c3)).setCell (p := ⟨w.heap.size, 3, none⟩) (Nat.le_refl _) (.string body)).setCell (p := ⟨w.heap.size, 4, none⟩) (Nat.le_refl _) (.int .i64 1))
  have hoF := ownsRow_setCell_below (ownsRow_setCell_below (ownsRow_setCell_below (ownsRow_setCell_below (ownsRow_setCell_below (ownsRow_setCell_below ho3 (a := ⟨w1.heap.size, 2, none⟩) hbl1 (.slice A3 3 c3)) (a := ⟨w.heap.size, 0, none⟩) hbl2 (.int .i64 503)) (a := ⟨w.heap.size, 1, none⟩) hbl2 (.string rs)) (a := ⟨w.heap.size, 2, none⟩) hbl2 (.slice A3 3 c3)) (a := ⟨w.heap.size, 3, none⟩) hbl2 (.string body)) (a := ⟨w.heap.size, 4, none⟩) hbl2 (.int .i64 1)
  have bF := (((((bR3.far (c := w1.heap.size) (i := 2) (.slice A3 3 c3) (Nat.ne_of_lt hsz1)).set (i := 0) (.int .i64 503)).set (i := 1) (.string rs)).set (i := 2) (.slice A3 3 c3)).set (i := 3) (.string body)).set (i := 4) (.int .i64 1)
  generalize (((((w3.setCell ⟨w1.heap.size, 2, none⟩ (.slice A3 3 c3)).setCell ⟨w.heap.size, 0, none⟩ (.int .i64 503)).setCell ⟨w.heap.size, 1, none⟩ (.string rs)).setCell ⟨w.heap.size, 2, none⟩ (.slice A3 3 c3)).setCell ⟨w.heap.size, 3, none⟩ (.string body)).setCell ⟨w.heap.size, 4, none⟩ (.int .i64 1) = WF at *
  have g0 := bF.cell (i := 0) rfl
  have g1 := bF.cell (i := 1) rfl
  have g2 := bF.cell (i := 2) rfl
  have g3 := bF.cell (i := 3) rfl
  have g4 := bF.cell (i := 4) rfl
  refine bodyPost_ret (v := .agg #[.int .i64 503, .string rs, .slice A3 3 c3, .string body, .int .i64 1]) ?_ rfl ⟨_, rs, body, d, rfl, own_lower hoF hsW, hbF⟩
  clear r0 r1 r2 r3 r4 f0 f1 f2 f3 f4 m0 m1 m2 m3 m4 fm2
  rw [results_cell rfl]; go_simp
end Go.Proofs.YthedoophopilgaaGreatDoor.Rw
