/- The document's Build (printed by genF.py). -/
import Derived.Test.YtiamkhhnnlgemaaDoorRiE
import Derived.Deep.CutRange
namespace Go.Proofs.YtiamkhhnnlgemaaDoor.Ri
open Go.RowKit Go.Sort Go.Lib Go.Shelf Go.Proofs.YtiamkhhnnlgemaaDoor.Sip Go.Proofs.YtiamkhhnnlgemaaDoor.Oct
set_option linter.unusedVariables false
theorem infoRP : (Tryd.prog.info? 41).map (fun i => (i.zero, i.size, i.bytes)) = some (some (.agg #[.int .u64 0, .string ⟨#[]⟩]), 2, 24) := by kernel_rfl
theorem Kps.set {n0 : Nat} {W0 w : World} (h : Kps n0 W0 w) {b i : Nat} (hb : n0 ≤ b) (v : Value) : Kps n0 W0 (w.setCell ⟨b, i, none⟩ v) := ⟨h.1.setCell (p := ⟨b, i, none⟩) hb v, by have := h.2; simp [World.setCell]; omega⟩
theorem mk_gt (a b : List UInt8) : (!Op.bytesLess (mk a).toList (mk b).toList && !(mk a).toList == (mk b).toList) = decide (b < a) := by
  rw [mk_lt, mk_eq]
  by_cases h1 : b < a
  · have h2 : ¬ a < b := fun h => List.lt_irrefl _ (List.lt_trans h1 h)
    have h3 : ¬ a = b := fun h => by subst h; exact List.lt_irrefl _ h1
    simp [h1, h2, h3]
  · by_cases h2 : a < b
    · simp [h1, h2]
    · have h3 := list_tri h2 h1
      simp [h3]
theorem mk_app (a b : List UInt8) : mk a ++ mk b = mk (a ++ b) := by
  apply Go.WideShapes.bytes_inj
  simp [mk]
theorem flatP_set : ∀ (l : List Pt) (a : Nat) (p : Pt), a < l.length → ((l.flatMap ptV).set (a * 2) (.int .u64 p.1)).set (a * 2 + 1) (.string (mk p.2)) = (l.set a p).flatMap ptV
  | [], a, p, h => by simp at h
  | x :: l, 0, p, h => rfl
  | x :: l, a + 1, p, h => by
    have := flatP_set l a p (by simpa using h)
    rw [show (a + 1) * 2 = a * 2 + 2 by omega]
    show (Value.int .u64 x.1 :: Value.string (mk x.2) :: ((l.flatMap ptV).set (a * 2) _).set (a * 2 + 1) _) = _
    rw [this]; rfl
theorem set_mid (l : List Pt) (a : Nat) (y p : Pt) (h : a ≤ l.length) : (l.take a ++ y :: l.drop a).set a p = l.take a ++ p :: l.drop a := by
  rw [List.set_append_right _ _ (by rw [List.length_take]; omega), List.length_take, Nat.min_eq_left h, Nat.sub_self]; rfl
theorem shift_mid (l : List Pt) (a : Nat) (h : a + 1 ≤ l.length) : l.take (a + 1) ++ l[a] :: l.drop (a + 1) = l.take a ++ l[a] :: l.drop a := by
  rw [List.take_succ_eq_append_getElem (by omega), List.append_assoc]
  congr 1
  rw [List.drop_eq_getElem_cons (show a < l.length by omega)]; rfl
theorem mid_get (l : List Pt) (a : Nat) (y : Pt) (h : a + 1 ≤ l.length) : (l.take (a + 1) ++ y :: l.drop (a + 1))[a]? = some l[a] := by
  rw [List.getElem?_append_left (by rw [List.length_take]; omega), List.getElem?_take, if_pos (by omega), List.getElem?_eq_getElem (by omega)]
theorem flatP_get (l : List Pt) (a : Nat) (y : Pt) (h : l[a]? = some y) : (l.flatMap ptV)[a * 2]? = some (.int .u64 y.1) ∧ (l.flatMap ptV)[a * 2 + 1]? = some (.string (mk y.2)) := by
  obtain ⟨hl, rfl⟩ := List.getElem?_eq_some_iff.1 h
  exact flat_getP l a hl
theorem flatP_len (xs : List Pt) : (xs.flatMap ptV).length = xs.length * 2 := by
  induction xs with
  | nil => rfl
  | cons x xs ih => rw [List.flatMap_cons, List.length_append, ih]; simp [ptV]; omega
theorem mid_len (l : List Pt) (a : Nat) (y : Pt) (h : a ≤ l.length) : (l.take a ++ y :: l.drop a).length = l.length + 1 := by
  rw [List.length_append, List.length_take, List.length_cons, List.length_drop]; omega
/-- A struct stored into a row of one's own. -/
theorem row_store {w : World} {base gb cap n : Nat} {e : TypeId} {l : List Pt} (h : w.ownsRow base e 2 (.slice (some ⟨gb, 0, none⟩) n cap) n (l.flatMap ptV)) (a : Nat) (p : Pt) (ha : a < l.length) :
    ((w.setCell ⟨gb, a * 2, none⟩ (.int .u64 p.1)).setCell ⟨gb, a * 2 + 1, none⟩ (.string (mk p.2))).ownsRow base e 2 (.slice (some ⟨gb, 0, none⟩) n cap) n ((l.set a p).flatMap ptV) := by
  have h1 := (h.stored (a * 2) (.int .u64 p.1)).1
  have h2 := (h1.stored (a * 2 + 1) (.string (mk p.2))).1
  rw [flatP_set _ _ _ ha] at h2
  exact h2
/-- Does an insertion go on at a? -/
def stepB (l : List Pt) (p : Pt) : Nat → Bool
  | 0 => false
  | a + 1 => match l[a]? with
    | none => false
    | some z => decide (ltP p z)
theorem stepB_no (l : List Pt) (p : Pt) : ∀ a, a ≤ l.length → stepB l p a = false → stopK l p a = a
  | 0, _, _ => rfl
  | a + 1, h, hb => by
    obtain ⟨z, hz⟩ : ∃ z, l[a]? = some z := ⟨_, List.getElem?_eq_getElem (by omega)⟩
    rw [stepB, hz] at hb
    rw [stopK, hz]
    exact if_neg (of_decide_eq_false hb)
theorem stepB_yes (l : List Pt) (p : Pt) : ∀ a, stepB l p a = true → ∃ (b : Nat) (z : Pt), a = b + 1 ∧ l[b]? = some z ∧ ltP p z
  | 0, h => by cases h
  | a + 1, h => by
    rw [stepB] at h
    cases hz : l[a]? with
    | none => rw [hz] at h; cases h
    | some z => rw [hz] at h; exact ⟨a, z, rfl, hz, of_decide_eq_true h⟩
theorem stop_zero (l : List Pt) (p : Pt) : stopK l p 0 = 0 := rfl
theorem stop_go (l : List Pt) (p y : Pt) (a : Nat) (h : l[a]? = some y) (hp : ltP p y) : stopK l p (a + 1) = stopK l p a := by rw [stopK, h]; exact if_pos hp
theorem stop_at (l : List Pt) (p y : Pt) (a : Nat) (h : l[a]? = some y) (hp : ¬ ltP p y) : stopK l p (a + 1) = a + 1 := by rw [stopK, h]; exact if_neg hp
theorem sum_ref (K : List UInt8) (hK : K.length = 16) (nm d : List UInt8) (hn : nm.length ≤ 1000) (hd : d.length ≤ 1000) (w : World) :
    Calls Tryd.prog 27 #[.string (mk K), .string (mk (nm ++ 35 :: d))] w fun e w' => e = .returned (.int .u64 (sumI K (nm ++ 35 :: d))) ∧ Below w.heap.size w w' :=
  refSum_any (mk K) (nm ++ 35 :: d) (by rw [mk_size]; exact hK) (by simp; omega) w
theorem drawn_row {w : World} {base size n : Nat} {e : TypeId} {v : Value} {xs : List Value} (h : w.ownsRow base e size v n xs) (k : Nat) : (w.drewN k).ownsRow base e size v n xs := own_below h (below_drewN (Below.refl _ w) k)
set_option maxRecDepth 100000 in
set_option maxHeartbeats 8000000 in
theorem refBuild_any (K : List UInt8) (hK : K.length = 16) (F : List Ent) (hok : OkR F) (per : Int) (v : Value) (w : World) (hv : Ents w v F) (hT : ∀ x ∈ F, x.1.length ≤ 900) :
    Calls Tryd.prog 13 #[.string (mk K), v, .int .i64 per] w fun e w' => ∃ u, e = .returned u ∧ w'.ownsRow w.heap.size 41 2 u ((ptsAll K per F).foldl insR []).length (((ptsAll K per F).foldl insR []).flatMap ptV) ∧ Below w.heap.size w w' := by
  obtain ⟨i0, hi, hy0, hy1, hy2⟩ := info_parts infoRP
  have hFl := hok.1
  have hFw := hok.2.1
  have hPd2 := Lib.hid (show ptsAll K per F = F.flatMap (ptsE K (perN per) (great1 F)) from rfl)
  have hrg := perN_rng per
  have hperm := Lib.hid (show (max 1 (min per 256) : Int) = perN per from rfl)
  obtain ⟨A, cp, rfl, hcp, hr⟩ := hv
  have hb0 : Below w.heap.size w w := Below.refl _ _
  go_enter Tryd.func13, Tryd.ntmps13
  go_wp2
  generalize hg : w.heap.size = g at *
  go_loopw [8, 22] (fun gv iv wr => ∃ k : Nat, k ≤ F.length ∧ iv = .int .i64 k ∧ gv = .int .i64 ((F.take k).foldl (fun (a : Int) x => max a x.2) 1) ∧ Below g w wr) (fun _ iv _ => F.length - (intOf iv).toNat)
  case atStart => exact ⟨0, Nat.zero_le _, rfl, by simp, hb0⟩
  case round =>
    obtain ⟨k, hk, rfl, rfl, hb⟩ := hrel
    have hgs : g ≤ wr.heap.size := by have := hb.size; omega
    by_cases c1 : k < F.length
    · obtain ⟨b, o, rfl, hlt, hx⟩ := hr (by omega)
      have hx0 := hx k F[k] (by simp [c1])
      have hc0 := (hb.cell (p := ⟨b, o + k * 2, none⟩) (by show b < g; omega)).trans hx0.1
      have hc1 := (hb.cell (p := ⟨b, o + k * 2 + 1, none⟩) (by show b < g; omega)).trans hx0.2
      have hnx := Lib.hid (greatT F k c1)
      generalize (F.take k).foldl (fun (a : Int) x => max a x.2) 1 = gr at *
      generalize F[k] = x at *
      clear hx0 hx
      go_wp2
      go_roundw
      case rel => exact ⟨k + 1, by omega, by go_num, by rw [hnx.out], hb.alloc hgs _⟩
      case measure => simp [intOf]; omega
    · have hkl : F.take k = F := List.take_of_length_le (by omega)
      rw [hkl]
      have hgw := great_ge F 1
      have hgw2 := great_le F 65535 1 (by omega) (fun x hx => (hFw x hx).2)
      have hG : F.foldl (fun (a : Int) x => max a x.2) 1 = great1 F := rfl
      rw [hG] at hgw hgw2 ⊢
      clear hkl hG
      generalize great1 F = gr at *
      go_wp2
      rw [hperm.out]
      clear hperm
      generalize perN per = pn at *
      obtain ⟨p1, p2⟩ := hrg
      obtain ⟨gr1, hgx⟩ := hgw
      have ho0 : (wr.alloc (.cells #[] 41)).ownsRow g 41 2 (.slice (some ⟨wr.heap.size, 0, none⟩) 0 0) (((F.take 0).flatMap (ptsE K pn gr)).foldl insR []).length ((((F.take 0).flatMap (ptsE K pn gr)).foldl insR []).flatMap ptV) := World.ownsRow_lit wr #[] 0 hgs (by unfold maxLen; omega) rfl
      have hb3 := hb.alloc hgs (.cells #[] 41)
      clear hb hb0 hgs
      generalize wr.alloc (.cells #[] 41) = w3 at *
      generalize wr.heap.size = q0 at *
      have hgr0 : ¬ gr = 0 := by omega
      go_loopw [11, 34] (fun uv iv wr => ∃ (k : Nat) (u : Value), u = uv ∧ k ≤ F.length ∧ iv = .int .i64 k ∧ wr.ownsRow g 41 2 u (((F.take k).flatMap (ptsE K pn gr)).foldl insR []).length ((((F.take k).flatMap (ptsE K pn gr)).foldl insR []).flatMap ptV) ∧ Below g w wr) (fun _ iv _ => F.length - (intOf iv).toNat)
      case atStart => exact ⟨0, _, rfl, Nat.zero_le _, rfl, ho0, hb3⟩
      case round =>
        clear ho0 hb3
        obtain ⟨k, u, rfl, hk, rfl, hown, hb⟩ := hrel
        have hgs : g ≤ wr.heap.size := by have := hb.size; omega
        by_cases c2 : k < F.length
        · obtain ⟨b, o, rfl, hlt, hx⟩ := hr (by omega)
          have hx0 := hx k F[k] (by simp [c2])
          have hc0 := (hb.cell (p := ⟨b, o + k * 2, none⟩) (by show b < g; omega)).trans hx0.1
          have hc1 := (hb.cell (p := ⟨b, o + k * 2 + 1, none⟩) (by show b < g; omega)).trans hx0.2
          have hxm : F[k] ∈ F := List.getElem_mem _
          have hxw := hFw _ hxm
          have hxg := hgx _ hxm
          have hxl := hT _ hxm
          have hnx := Lib.hid (show ((F.take (k + 1)).flatMap (ptsE K pn gr)).foldl insR [] = (ptsE K pn gr F[k]).foldl insR (((F.take k).flatMap (ptsE K pn gr)).foldl insR []) by rw [List.take_succ_eq_append_getElem c2, List.flatMap_append, List.foldl_append]; simp)
          have hBl := flatMap_len (ptsE K pn gr) 256 (F.take k) (fun y hy => by
            have h1 := List.mem_of_mem_take hy
            have h2 := cntE_rng p1 p2 (hFw _ h1).1 (hgx _ h1)
            unfold ptsE; rw [List.length_map, List.length_range]; omega)
          rw [List.length_take] at hBl
          have hBl2 : (((F.take k).flatMap (ptsE K pn gr)).foldl insR []).length ≤ 262144 := by
            rw [(insAll_perm _ []).length_eq, List.length_append]
            have : min k F.length * 256 ≤ 1024 * 256 := Nat.mul_le_mul_right _ (by omega)
            show _ + 0 ≤ _
            omega
          clear hBl
          generalize ((F.take k).flatMap (ptsE K pn gr)).foldl insR [] = bs at *
          generalize F[k] = x at *
          clear hx0 hx hxm
          have hcn := cntE_rng p1 p2 hxw.1 hxg
          have hm1 : pn * x.2 ≤ 256 * 65535 := Int.mul_le_mul p2 hxw.2 (by omega) (by omega)
          have hm0 : 0 ≤ pn * x.2 := Int.mul_nonneg (by omega) (by omega)
          have hpE := Lib.hid (show ptsE K pn gr x = (List.range (cntE pn gr x.2).toNat).map (ptOf K x.1) from rfl)
          have hcE : cntE pn gr x.2 = max 1 (pn * x.2 / gr) := rfl
          obtain ⟨n, hn⟩ := Int.eq_ofNat_of_zero_le (show 0 ≤ cntE pn gr x.2 by omega)
          rw [hn] at hcE hcn hpE
          rw [Int.toNat_natCast] at hpE
          clear hn
          have hs49 := Lib.hid (show max 1 (wrap64 ((wrap64 (pn * x.2)).tdiv gr)) = (n : Int) by
            have hd := cntE_rng p1 p2 hxw.1 hxg
            unfold cntE at hd
            have hd0 : 0 ≤ pn * x.2 / gr := Int.ediv_nonneg hm0 (by omega)
            rw [wrapE, wrapE, IntWalk.i64_in (pn * x.2) (by omega), Int.tdiv_eq_ediv_of_nonneg hm0, IntWalk.i64_in _ (by omega)]
            exact hcE.symm)
          clear hcE hm0 hm1
          have hqe := Blk.new wr #[.string (mk x.1), .int .i64 x.2] 46
          have hown4 := hown.alloc (.cells #[.string (mk x.1), .int .i64 x.2] 46)
          have hb4 := hb.alloc hgs (.cells #[.string (mk x.1), .int .i64 x.2] 46)
          clear hown hb
          go_wp2
          generalize wr.alloc (.cells #[.string (mk x.1), .int .i64 x.2] 46) = w4 at *
          generalize wr.heap.size = qe at *
          clear hc0 hc1 hxg
          have hown5 : w4.ownsRow g 41 2 u (((List.range 0).map (ptOf K x.1)).foldl insR bs).length ((((List.range 0).map (ptOf K x.1)).foldl insR bs).flatMap ptV) := hown4
          clear hown4
          go_loopw [11, 14] (fun uv iv wr => ∃ (j : Nat) (u : Value), u = uv ∧ j ≤ n ∧ iv = .int .i64 j ∧ wr.ownsRow g 41 2 u (((List.range j).map (ptOf K x.1)).foldl insR bs).length ((((List.range j).map (ptOf K x.1)).foldl insR bs).flatMap ptV) ∧ Below g w wr ∧ Blk wr qe #[.string (mk x.1), .int .i64 x.2] 46) (fun _ iv _ => n - (intOf iv).toNat)
          case atStart => exact ⟨0, _, rfl, Nat.zero_le _, rfl, hown5, hb4, hqe⟩
          case round =>
            clear hown5 hb4 hqe
            obtain ⟨j, u, rfl, hj, rfl, hown, hb, hqe⟩ := hrel
            have hgs : g ≤ wr.heap.size := by have := hb.size; omega
            have hql := hqe.lt
            have hs49o := hs49.out
            have hcw : wr.cell? ⟨qe, 1, none⟩ = some (.int .i64 x.2) := hqe.cell rfl
            by_cases c3 : j < n
            · have c3' : (j : Int) < (n : Int) := by omega
              have hll : (((List.range j).map (ptOf K x.1)).foldl insR bs).length ≤ 300000 := by
                rw [(insAll_perm _ bs).length_eq, List.length_append, List.length_map, List.length_range]; omega
              have hnx2 := Lib.hid (show ((List.range (j + 1)).map (ptOf K x.1)).foldl insR bs = insR (((List.range j).map (ptOf K x.1)).foldl insR bs) (ptOf K x.1 j) by rw [List.range_succ, List.map_append, List.foldl_append]; rfl)
              generalize ((List.range j).map (ptOf K x.1)).foldl insR bs = l at *
              have hdl := dec_len j (by omega)
              have dP := fun W => refPrint10 (j : Int) (by omega) W
              have dS := fun W => sum_ref K hK x.1 (decL (j : Int)) (by omega) (by omega) W
              have hcat1 : ∀ W : World, (Op.stringOp .add (mk x.1) ⟨#[35]⟩).run Tryd.prog W = .ok (.string (mk (x.1 ++ [35]))) W := by
                intro W
                rw [Ri.cat_run _ _ (by rw [mk_size]; show x.1.length + 1 ≤ _; omega)]
                rw [show (⟨#[35]⟩ : ByteArray) = mk [35] from rfl, mk_app]
              have hcat2 : ∀ W : World, (Op.stringOp .add (mk (x.1 ++ [35])) (decS (j : Int))).run Tryd.prog W = .ok (.string (mk (x.1 ++ 35 :: decL (j : Int)))) W := by
                intro W
                rw [show decS (j : Int) = mk (decL (j : Int)) from rfl, Ri.cat_run _ _ (by rw [mk_size, mk_size, List.length_append]; simp; omega)]
                rw [mk_app, List.append_assoc]; rfl
              have hptv : ptOf K x.1 j = (sumI K (x.1 ++ 35 :: decL (j : Int)), x.1) := rfl
              have hpv := Lib.hid hptv
              generalize ptOf K x.1 j = p at *
              clear hptv
              obtain ⟨Au, cu, rfl⟩ := row_slice hown
              go_upto_region 15 with fail
              have hK0 : Kps wr.heap.size wr wr.drew := ⟨(Below.refl _ wr).drew, Nat.le_refl _⟩
              have hKa : Kps wr.heap.size wr (wr.alloc (.cells #[.int .u64 0, .string ⟨#[]⟩] 41)).drew := ⟨((Below.refl _ wr).alloc (Nat.le_refl _) _).drew, by show wr.heap.size ≤ (wr.alloc _).heap.size; simp⟩
              have hcq : wr.cell? ⟨qe, 0, none⟩ = some (.string (mk x.1)) := hqe.cell rfl
              have hSS : ∀ w', Kps wr.heap.size wr w' → (w'.cell? ⟨qe, 0, none⟩ = some (.string (mk x.1)) ∧ Kps wr.heap.size wr w') := fun w' hk => ⟨hk.cell hql hcq, hk⟩
              go_cut [15] from 38 to 114 (fun s15 wx => ∃ qp : Nat, s15 = .pointer (some ⟨qp, 0, none⟩) ∧ Blk wx qp #[.int .u64 (sumI K (x.1 ++ 35 :: decL (j : Int))), .string (mk x.1)] 41 ∧ wx.ownsRow g 41 2 (.slice Au l.length cu) l.length (l.flatMap ptV) ∧ Below g w wx ∧ Blk wx qe #[.string (mk x.1), .int .i64 x.2] 46 ∧ (∀ jj : Nat, (Value.slice Au l.length cu).ownBlock = some jj → jj < qp))
              case first =>
                go_region_held3 (fun w' => w'.cell? ⟨qe, 0, none⟩ = some (.string (mk x.1)) ∧ Kps wr.heap.size wr w')
                  (first
                    | exact hSS _ hK0
                    | exact hSS _ hKa
                    | (go_split_ands; exact hSS _ (by assumption))
                    | (go_split_ands; refine hSS _ (Kps.call ?_ hbP); assumption)
                    | (go_split_ands; refine hSS _ (Kps.call ?_ hbS); assumption)
                    | (go_split_ands; refine hSS _ (Kps.alloc ?_ _); assumption)
                    | (go_split_ands; refine hSS _ (Kps.set (Kps.set ?_ ?_ _) ?_ _) <;> first | assumption | exact hkP.2 | exact hkS.2 | exact Nat.le_refl _))
                  (first
                    | (go_at_call 28; (with_reducible refine (dP _).mono ?_); rintro e w5 ⟨rfl, hbP⟩; have hkP := (by first | exact hK0.call hbP | exact hKa.call hbP | exact (hK0.alloc _).call hbP : Kps wr.heap.size wr w5); (first | (have hzA : Blk w5 wr.heap.size #[.int .u64 0, .string ⟨#[]⟩] 41 := (show Blk (wr.alloc (.cells #[.int .u64 0, .string ⟨#[]⟩] 41)).drew wr.heap.size #[.int .u64 0, .string ⟨#[]⟩] 41 from Blk.new wr #[.int .u64 0, .string ⟨#[]⟩] 41).below hbP) | skip))
                    | (go_at_call 27; (with_reducible refine (dS _).mono ?_); rintro e w6 ⟨rfl, hbS⟩; have hkS := (by first | exact hkP.call hbS | exact (hkP.alloc _).call hbS : Kps wr.heap.size wr w6); (first | (have hzB : Blk w6 wr.heap.size #[.int .u64 0, .string ⟨#[]⟩] 41 := hzA.below hbS; have z0 := hzB.cell (i := 0) rfl; have z1 := hzB.cell (i := 1) rfl; have f0 := hzB.free (i := 0); have f1 := hzB.free (i := 1)) | (have hzB : Blk w6 w5.heap.size #[.int .u64 0, .string ⟨#[]⟩] 41 := (Blk.new w5 #[.int .u64 0, .string ⟨#[]⟩] 41).below hbS; have z0 := hzB.cell (i := 0) rfl; have z1 := hzB.cell (i := 1) rfl; have f0 := hzB.free (i := 0); have f1 := hzB.free (i := 1)) | skip)))
                all_goals
                  first
                    | (have hz9 : Blk w6 wr.heap.size #[.int .u64 0, .string ⟨#[]⟩] 41 := hzB
                       have hQ : Blk ((w6.setCell ⟨wr.heap.size, 0, none⟩ (.int .u64 (sumI K (x.1 ++ 35 :: decL (j : Int))))).setCell ⟨wr.heap.size, 1, none⟩ (.string (mk x.1))) wr.heap.size #[.int .u64 (sumI K (x.1 ++ 35 :: decL (j : Int))), .string (mk x.1)] 41 := (hz9.set (i := 0) _).set (i := 1) _
                       have hkW := Kps.set (i := 1) (Kps.set (i := 0) hkS (Nat.le_refl wr.heap.size) (.int .u64 (sumI K (x.1 ++ 35 :: decL (j : Int))))) (Nat.le_refl wr.heap.size) (.string (mk x.1))
                       have hqx : wr.heap.size ≤ wr.heap.size := Nat.le_refl _
                       have hown7 := own_below hown hkW.1
                       have hb7 := hb.trans (hkW.1.mono hgs)
                       have hqe7 := hqe.below hkW.1
                       have hob := fun (jj : Nat) (e : (Value.slice Au l.length cu).ownBlock = some jj) => Nat.lt_of_lt_of_le (hown.lt jj e).2 hqx
                       clear hkW hqx hown hb hqe hql hgs hcw hcq hs49o
                       clear hz9 hzB z0 z1 f0 f1 hkS hkP hbP hbS hK0 hKa hSS
                       generalize (w6.setCell ⟨wr.heap.size, 0, none⟩ (.int .u64 (sumI K (x.1 ++ 35 :: decL (j : Int))))).setCell ⟨wr.heap.size, 1, none⟩ (.string (mk x.1)) = w7 at *
                       generalize wr.heap.size = qp at *)
                    | (have hz9 : Blk w6 w5.heap.size #[.int .u64 0, .string ⟨#[]⟩] 41 := hzB
                       have hQ : Blk ((w6.setCell ⟨w5.heap.size, 0, none⟩ (.int .u64 (sumI K (x.1 ++ 35 :: decL (j : Int))))).setCell ⟨w5.heap.size, 1, none⟩ (.string (mk x.1))) w5.heap.size #[.int .u64 (sumI K (x.1 ++ 35 :: decL (j : Int))), .string (mk x.1)] 41 := (hz9.set (i := 0) _).set (i := 1) _
                       have hkW := Kps.set (i := 1) (Kps.set (i := 0) hkS hkP.2 (.int .u64 (sumI K (x.1 ++ 35 :: decL (j : Int))))) hkP.2 (.string (mk x.1))
                       have hqx := hkP.2
                       have hown7 := own_below hown hkW.1
                       have hb7 := hb.trans (hkW.1.mono hgs)
                       have hqe7 := hqe.below hkW.1
                       have hob := fun (jj : Nat) (e : (Value.slice Au l.length cu).ownBlock = some jj) => Nat.lt_of_lt_of_le (hown.lt jj e).2 hqx
                       clear hkW hqx hown hb hqe hql hgs hcw hcq hs49o
                       clear hz9 hzB z0 z1 f0 f1 hkS hkP hbP hbS hK0 hKa hSS
                       generalize (w6.setCell ⟨w5.heap.size, 0, none⟩ (.int .u64 (sumI K (x.1 ++ 35 :: decL (j : Int))))).setCell ⟨w5.heap.size, 1, none⟩ (.string (mk x.1)) = w7 at *
                       generalize w5.heap.size = qp at *)
                    | (have hQ := Blk.new w6 #[.int .u64 (sumI K (x.1 ++ 35 :: decL (j : Int))), .string (mk x.1)] 41
                       have hkW := Kps.alloc hkS (.cells #[.int .u64 (sumI K (x.1 ++ 35 :: decL (j : Int))), .string (mk x.1)] 41)
                       have hqx := hkS.2
                       have hown7 := own_below hown hkW.1
                       have hb7 := hb.trans (hkW.1.mono hgs)
                       have hqe7 := hqe.below hkW.1
                       have hob := fun (jj : Nat) (e : (Value.slice Au l.length cu).ownBlock = some jj) => Nat.lt_of_lt_of_le (hown.lt jj e).2 hqx
                       clear hkW hqx hown hb hqe hql hgs hcw hcq hs49o
                       clear hkS hkP hbP hbS hK0 hKa hSS
                       generalize w6.alloc (.cells #[.int .u64 (sumI K (x.1 ++ 35 :: decL (j : Int))), .string (mk x.1)] 41) = w7 at *
                       generalize w6.heap.size = qp at *)
                  go_wp2_with fail
                  go_meet
                  exact ⟨qp, rfl, hQ, hown7, hb7, hqe7, hob⟩
              case rest =>
                obtain ⟨qp, rfl, hQ, hown7, hb7, hqe7, hob⟩ := hcut
                generalize wc = w7 at *
                generalize sumI K (x.1 ++ 35 :: decL (j : Int)) = sv at *
                have hpe := hpv
                have hqlt := hQ.lt
                have hgs7 : g ≤ w7.heap.size := by have := hb7.size; omega
                have hp0 := hQ.cell (i := 0) rfl
                have hp1 := hQ.cell (i := 1) rfl
                have hbk := heap_alloc_new w7 (Obj.cells #[.int .u64 sv, .string (mk x.1)] 41)
                go_wp2_with (at_builtin; go_must (refine wpList_append_own_at _ rfl _ _ 35 rfl g 41 i0 _ 2 24 Tryd.underlying35 hi hy0 hy1 hy2 rfl (by decide) _ _ _ rfl (hown7.alloc _) ⟨_, 0, none⟩ 1 1 [.int .u64 sv, .string (mk x.1)] rfl rfl (World.news_of_block hbk) (by simp [Value.oneCell']) (by unfold maxLen; omega) (by omega) (by simp; omega) ?_; intro v8 w8 hown8 hgrow8 _ hat8))
                obtain ⟨gb, cb, rfl⟩ := ownsRow_succ hown8
                have hgg : g ≤ gb := (hown8.lt gb rfl).1
                have hgqp : qp ≠ gb := by
                  rcases hat8 with h | h
                  · have := hob gb h.symm; omega
                  · simp [Value.ownBlock] at h; omega
                have hbA := (Below.refl _ w7).alloc (Nat.le_refl _) (.cells #[.int .u64 sv, .string (mk x.1)] 41)
                have hoA := hown7.alloc (.cells #[.int .u64 sv, .string (mk x.1)] 41)
                have hQ8 : Blk w8 qp #[.int .u64 sv, .string (mk x.1)] 41 := (hQ.below hbA).grown hgrow8 (fun e => by have := hob qp e.symm; omega)
                have hqe8 : Blk w8 qe #[.string (mk x.1), .int .i64 x.2] 46 := (hqe7.below hbA).grown hgrow8 ((hqe7.below hbA).ne_row (by decide) hoA)
                have hgqe : qe ≠ gb := fun e => hqe8.ne_row (by decide) hown8 (by rw [e]; rfl)
                have hb8 : Below g w w8 := grow_low (hb7.alloc hgs7 _) (by simp; omega) hgrow8 (fun b e => (hown7.lt b e).1)
                have ho8 : w8.ownsRow g 41 2 (.slice (some ⟨gb, 0, none⟩) (l.length + 1) cb) (l.length + 1) ((l.take l.length ++ (sv, x.1) :: l.drop l.length).flatMap ptV) := by
                  rw [List.take_of_length_le (Nat.le_refl _), List.drop_of_length_le (Nat.le_refl _), List.flatMap_append]
                  exact hown8
                clear hbA hoA hown8 hgrow8 hat8 hQ hqe7 hown7 hb7 hob hp0 hp1 hbk hpv
                go_loopw [16] (fun iv wr => ∃ (a : Nat) (y : Pt), a ≤ l.length ∧ iv = .int .i64 a ∧ wr.ownsRow g 41 2 (.slice (some ⟨gb, 0, none⟩) (l.length + 1) cb) (l.length + 1) ((l.take a ++ y :: l.drop a).flatMap ptV) ∧ Below g w wr ∧ Blk wr qp #[.int .u64 sv, .string (mk x.1)] 41 ∧ Blk wr qe #[.string (mk x.1), .int .i64 x.2] 46 ∧ Hid (stopK l (sv, x.1) l.length = stopK l (sv, x.1) a)) (fun iv _ => (intOf iv).toNat)
                case atStart => exact ⟨l.length, _, Nat.le_refl _, rfl, ho8, hb8, hQ8, hqe8, Lib.hid rfl⟩
                case round =>
                  clear ho8 hb8 hQ8 hqe8
                  obtain ⟨a, y, ha, rfl, ho4, hb4, hQ4, hqe4, hst⟩ := hrel
                  go_upto_region 18 with fail
                  go_cut [100] from 66 to 110 (fun s100 wx => s100 = .bool (stepB l (sv, x.1) a) ∧ wx.ownsRow g 41 2 (.slice (some ⟨gb, 0, none⟩) (l.length + 1) cb) (l.length + 1) ((l.take a ++ y :: l.drop a).flatMap ptV) ∧ Below g w wx ∧ Blk wx qp #[.int .u64 sv, .string (mk x.1)] 41 ∧ Blk wx qe #[.string (mk x.1), .int .i64 x.2] 46)
                  case first =>
                    have hp0 := hQ4.cell (i := 0) rfl
                    have hp1 := hQ4.cell (i := 1) rfl
                    have hout : ∀ n, (wr.drewN n).ownsRow g 41 2 (.slice (some ⟨gb, 0, none⟩) (l.length + 1) cb) (l.length + 1) ((l.take a ++ y :: l.drop a).flatMap ptV) ∧ Below g w (wr.drewN n) ∧ Blk (wr.drewN n) qp #[.int .u64 sv, .string (mk x.1)] 41 ∧ Blk (wr.drewN n) qe #[.string (mk x.1), .int .i64 x.2] 46 := fun n => ⟨drawn_row ho4 n, below_drewN hb4 n, hQ4, hqe4⟩
                    by_cases c4 : a = 0
                    · have hB := Lib.hid (show false = stepB l (sv, x.1) a by rw [c4]; rfl)
                      have d0 : decide ((0 : Int) < (a : Int)) = false := decide_eq_false (by omega)
                      have d1 : decide (0 < a) = false := decide_eq_false (by omega)
                      clear c4
                      go_quiet (fail)
                      go_wp2_with fail
                      go_meet
                      exact ⟨by first | (rw [← hB.out]; done) | rw [← hB.out, hgt.out], hout _⟩
                    · obtain ⟨ap, hap0⟩ : ∃ ap, a = ap + 1 := ⟨a - 1, by omega⟩
                      obtain ⟨z, hz0⟩ : ∃ z, l[ap]? = some z := ⟨_, List.getElem?_eq_getElem (by omega)⟩
                      have hmg : (l.take a ++ y :: l.drop a)[ap]? = some z := by
                        obtain ⟨hzl, hze⟩ := List.getElem?_eq_some_iff.1 hz0
                        rw [hap0, mid_get _ _ _ (by omega), hze]
                      obtain ⟨f0, f1⟩ := flatP_get _ _ _ hmg
                      have hlen4 : ((l.take a ++ y :: l.drop a).flatMap ptV).length = (l.length + 1) * 2 := by rw [flatP_len, mid_len _ _ _ ha]
                      have q0' : wr.cell? ⟨gb, ap * 2, none⟩ = some (.int .u64 z.1) := by rw [ho4.cellAt (ap * 2) (by omega), f0]
                      have q1' : wr.cell? ⟨gb, ap * 2 + 1, none⟩ = some (.string (mk z.2)) := by rw [ho4.cellAt (ap * 2 + 1) (by omega), f1]
                      have x1 : IntKind.i64.wrap ((a : Int) - 1) = (ap : Int) := by rw [IntWalk.i64_in _ (by omega)]; omega
                      have j0 : (0 : Int) ≤ (ap : Int) := by omega
                      have j1 : (ap : Int) < (l.length : Int) + 1 := by omega
                      have j2 : (ap : Int) < ((l.length + 1 : Nat) : Int) := by omega
                      have d0 : (0 : Int) < (a : Int) := by omega
                      have d1 : 0 < a := by omega
                      have hsB := Lib.hid (show stepB l (sv, x.1) a = decide (ltP (sv, x.1) z) by rw [hap0, stepB, hz0])
                      clear f0 f1 hmg hlen4 hap0 hz0 c4
                      by_cases c5 : sv < z.1
                      · have hB := Lib.hid (show true = stepB l (sv, x.1) a by rw [hsB.out]; exact (decide_eq_true (.inl c5)).symm)
                        go_quiet (fail)
                        go_wp2_with fail
                        go_meet
                        exact ⟨by first | (rw [← hB.out]; done) | rw [← hB.out, hgt.out], hout _⟩
                      · by_cases c6 : z.1 = sv
                        · have c6b : (z.1 == sv) = true := by simpa using c6
                          by_cases c7 : x.1 < z.2
                          · have hB := Lib.hid (show true = stepB l (sv, x.1) a by rw [hsB.out]; exact (decide_eq_true (.inr ⟨c6.symm, c7⟩)).symm)
                            have hgt := Lib.hid ((mk_gt z.2 x.1).trans (decide_eq_true c7))
                            clear c6 c7
                            go_quiet (fail)
                            go_wp2_with fail
                            go_meet
                            exact ⟨by first | (rw [← hB.out]; done) | rw [← hB.out, hgt.out], hout _⟩
                          · have hB := Lib.hid (show false = stepB l (sv, x.1) a by
                              rw [hsB.out]
                              refine (decide_eq_false ?_).symm
                              rintro (h | ⟨_, h⟩)
                              · exact c5 h
                              · exact c7 h)
                            have hgt := Lib.hid ((mk_gt z.2 x.1).trans (decide_eq_false c7))
                            clear c6 c7
                            go_quiet (fail)
                            go_wp2_with fail
                            go_meet
                            exact ⟨by first | (rw [← hB.out]; done) | rw [← hB.out, hgt.out], hout _⟩
                        · have hB := Lib.hid (show false = stepB l (sv, x.1) a by
                            rw [hsB.out]
                            refine (decide_eq_false ?_).symm
                            rintro (h | ⟨h, _⟩)
                            · exact c5 h
                            · exact c6 h.symm)
                          have c6b : (z.1 == sv) = false := by simpa using c6
                          clear c6
                          go_quiet (fail)
                          go_wp2_with fail
                          go_meet
                          exact ⟨by first | (rw [← hB.out]; done) | rw [← hB.out, hgt.out], hout _⟩
                  case rest =>
                    obtain ⟨rfl, ho5, hb5, hQ5, hqe5⟩ := hcut
                    clear ho4 hb4 hQ4 hqe4
                    have hfl : ((l.take a ++ y :: l.drop a).flatMap ptV).length = (l.length + 1) * 2 := by rw [flatP_len, mid_len _ _ _ ha]
                    have e0 := ho5.frozenAt (a * 2)
                    have e1 := ho5.frozenAt (a * 2 + 1)
                    obtain ⟨v20, e2⟩ : ∃ v, wc.cell? ⟨gb, a * 2, none⟩ = some v := ⟨_, by rw [ho5.cellAt (a * 2) (by omega)]; exact List.getElem?_eq_getElem (by omega)⟩
                    obtain ⟨v21, e3⟩ : ∃ v, wc.cell? ⟨gb, a * 2 + 1, none⟩ = some v := ⟨_, by rw [ho5.cellAt (a * 2 + 1) (by omega)]; exact List.getElem?_eq_getElem (by omega)⟩
                    have i0' : (0 : Int) ≤ (a : Int) := by omega
                    have i1' : (a : Int) < ((l.length + 1 : Nat) : Int) := by omega
                    have i2' : (a : Int) < (l.length : Int) + 1 := by omega
                    cases hbb0 : stepB l (sv, x.1) a with
                    | false =>
                      have hsK := Lib.hid (show stopK l (sv, x.1) l.length = a by rw [hst.out]; exact stepB_no _ _ _ ha hbb0)
                      have hins := Lib.hid (show insR l (sv, x.1) = l.take a ++ (sv, x.1) :: l.drop a by unfold insR; rw [hsK.out])
                      have hset := Lib.hid (row_store ho5 a (sv, x.1) (by rw [mid_len _ _ _ ha]; omega))
                      have g0 := hQ5.cell (i := 0) rfl
                      have g1 := hQ5.cell (i := 1) rfl
                      clear ho5 hfl hbb0 hsK hst
                      go_wp2_with fail
                      go_roundw
                      case rel =>
                        refine ⟨j + 1, _, rfl, by omega, by go_num, ?_, (hb5.setCell (p := ⟨gb, a * 2, none⟩) hgg _).setCell (p := ⟨gb, a * 2 + 1, none⟩) hgg _, (hqe5.far _ hgqe).far _ hgqe⟩
                        rw [hnx2.out, hpe.out, insR_len, hins.out]
                        have h7 := hset.out
                        rw [set_mid _ _ _ _ ha] at h7
                        exact h7
                      case measure => simp [intOf]; omega
                    | true =>
                      obtain ⟨ap, z, hap0, hz0, hlt0⟩ := stepB_yes _ _ _ hbb0
                      have hap := Lib.hid hap0
                      have hz := Lib.hid hz0
                      have hmv := Lib.hid (row_store ho5 a z (by rw [mid_len _ _ _ ha]; omega))
                      have hsn := Lib.hid (show stopK l (sv, x.1) l.length = stopK l (sv, x.1) ap by rw [hst.out, hap0]; exact stop_go l _ z ap hz0 hlt0)
                      have hmg : (l.take a ++ y :: l.drop a)[ap]? = some z := by
                        obtain ⟨hzl, hze⟩ := List.getElem?_eq_some_iff.1 hz0
                        rw [hap0, mid_get _ _ _ (by omega), hze]
                      obtain ⟨f0, f1⟩ := flatP_get _ _ _ hmg
                      have q0' : wc.cell? ⟨gb, ap * 2, none⟩ = some (.int .u64 z.1) := by rw [ho5.cellAt (ap * 2) (by omega), f0]
                      have q1' : wc.cell? ⟨gb, ap * 2 + 1, none⟩ = some (.string (mk z.2)) := by rw [ho5.cellAt (ap * 2 + 1) (by omega), f1]
                      have x1 : IntKind.i64.wrap ((a : Int) - 1) = (ap : Int) := by rw [IntWalk.i64_in _ (by omega)]; omega
                      have x1b : wrap64 ((a : Int) - 1) = (ap : Int) := by rw [wrapE]; exact x1
                      have x1c : (a : Int) - 1 = (ap : Int) := by omega
                      have j0 : (0 : Int) ≤ (ap : Int) := by omega
                      have j1 : (ap : Int) < (l.length : Int) + 1 := by omega
                      have j2 : (ap : Int) < ((l.length + 1 : Nat) : Int) := by omega
                      clear ho5 hfl hbb0 hst f0 f1 hmg hz0 hap0 hlt0
                      go_wp2_with fail
                      go_roundw
                      case rel =>
                        refine ⟨ap, z, by have := hap.out; omega, by first | rfl | go_num, ?_, (hb5.setCell (p := ⟨gb, a * 2, none⟩) hgg _).setCell (p := ⟨gb, a * 2 + 1, none⟩) hgg _, (hQ5.far _ hgqp).far _ hgqp, (hqe5.far _ hgqe).far _ hgqe, hsn⟩
                        have h7 := hmv.out
                        rw [set_mid _ _ _ _ ha] at h7
                        have h8 := hap.out
                        subst h8
                        obtain ⟨hzl, hze⟩ := List.getElem?_eq_some_iff.1 hz.out
                        rw [← hze, shift_mid l ap (by omega), hze] at h7
                        exact h7
                      case measure => have := hap.out; first | (simp [intOf]; omega) | (simp [intOf]; done)
            · have hjn : j = n := by omega
              subst hjn
              rw [← hpE.out, ← hnx.out] at hown
              go_wp2
              go_roundw
              case rel => exact ⟨k + 1, _, rfl, by omega, by go_num, hown, hb⟩
              case measure => simp [intOf]; omega
        · have hkl : F.take k = F := List.take_of_length_le (by omega)
          rw [hkl, ← hPd2.out] at hown
          have hoU := Lib.hid hown
          clear hown hPd2
          go_wp2
          go_ret
          refine ⟨u, rfl, ?_, ?_⟩ <;> (try rw [hg])
          · exact hoU.out
          · exact hb
end Go.Proofs.YtiamkhhnnlgemaaDoor.Ri
