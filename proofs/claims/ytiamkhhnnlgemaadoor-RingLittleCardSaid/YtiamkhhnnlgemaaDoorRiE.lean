/- The program's Build (printed by genE.py). -/
import Derived.Test.YtiamkhhnnlgemaaDoorRiD
import Derived.Test.YtiamkhhnnlgemaaDoorRiG
import Derived.IntWalk
import Derived.Deep.DrawnRows
namespace Go.Proofs.YtiamkhhnnlgemaaDoor.Ri
open Go.RowKit Go.Sort Go.Lib Go.Shelf Go.Proofs.YtiamkhhnnlgemaaDoor.Sip Go.Proofs.YtiamkhhnnlgemaaDoor.Oct
set_option linter.unusedVariables false
attribute [local go_sem ↓] Go.wp_at_zero Go.wp_at_succ
theorem infoPt : (Tryd.prog.info? 67).map (fun i => (i.zero, i.size, i.bytes)) = some (some (.agg #[.int .u64 0, .string ⟨#[]⟩]), 2, 24) := by kernel_rfl
/-- Block b holds these cells, free. -/
def Blk (w : World) (b : Nat) (cs : Array Value) (T : TypeId) : Prop := w.heap[b]? = some (.cells cs T (0, 0))
theorem Blk.lt {w : World} {b : Nat} {cs : Array Value} {T : TypeId} (h : Blk w b cs T) : b < w.heap.size := (Array.getElem?_eq_some_iff.1 h).1
theorem Blk.below {w w' : World} {b : Nat} {cs : Array Value} {T : TypeId} (h : Blk w b cs T) (hB : Below w.heap.size w w') : Blk w' b cs T := (hB.block b h.lt).trans h
theorem Blk.ne_row {w : World} {b : Nat} {cs : Array Value} {T e : TypeId} (h : Blk w b cs T) (hT : T ≠ e) {base size n : Nat} {v : Value} {xs : List Value} (hr : w.ownsRow base e size v n xs) : some b ≠ v.ownBlock := by
  intro h2
  rcases hr.2 with ⟨rfl, _⟩ | ⟨g', cap', cur, rfl, hb, hg, rest⟩
  · cases h2
  · have e2 : b = g' := by simpa [Value.ownBlock] using h2
    subst e2
    rw [show w.heap[b]? = _ from h] at hg
    exact hT (Obj.cells.inj (Option.some.inj hg)).2.1
theorem Blk.grown {w w' : World} {b : Nat} {cs : Array Value} {T : TypeId} (h : Blk w b cs T) {ob : Option Nat} (hg : w.grownBy w' ob) (hne : some b ≠ ob) : Blk w' b cs T := (hg.block b h.lt hne).trans h
theorem Blk.new (w : World) (cs : Array Value) (T : TypeId) : Blk (w.alloc (.cells cs T)) w.heap.size cs T := heap_alloc_new w _
theorem Blk.cell {w : World} {b i : Nat} {cs : Array Value} {T : TypeId} {v : Value} (h : Blk w b cs T) (hi : cs[i]? = some v) : w.cell? ⟨b, i, none⟩ = some v := (cell_of_row _ b i _ _ _ h).trans hi
theorem Blk.free {w : World} {b i : Nat} {cs : Array Value} {T : TypeId} (h : Blk w b cs T) : w.frozen? ⟨b, i, none⟩ = false := by
  simp [World.frozen?, show w.heap[b]? = _ from h]
theorem Blk.set {w : World} {b i : Nat} {cs : Array Value} {T : TypeId} (h : Blk w b cs T) (v : Value) : Blk (w.setCell ⟨b, i, none⟩ v) b (cs.setIfInBounds i v) T := by
  have h' : w.heap[b]? = some (.cells cs T (0, 0)) := h
  show (w.setCell ⟨b, i, none⟩ v).heap[b]? = _
  simp [World.setCell, Array.getElem?_modify, h']
theorem Blk.far {w : World} {b c i : Nat} {cs : Array Value} {T : TypeId} (h : Blk w b cs T) (v : Value) (hne : b ≠ c) : Blk (w.setCell ⟨c, i, none⟩ v) b cs T := (Below.heap_setCell w ⟨c, i, none⟩ v b hne).trans h
theorem own_below {w w' : World} {base : Nat} {e : TypeId} {size : Nat} {v : Value} {n : Nat} {xs : List Value} (h : w.ownsRow base e size v n xs) (hB : Below w.heap.size w w') : w'.ownsRow base e size v n xs := by
  obtain ⟨h1, h2⟩ := h
  refine ⟨h1, h2.imp id ?_⟩
  rintro ⟨g', cap', cur, hv, hb, hg, rest⟩
  exact ⟨g', cap', cur, hv, hb, (hB.block g' (Array.getElem?_eq_some_iff.1 hg).1).trans hg, rest⟩
/-- A ring in the making: its block, its points in a row of the call's own, the key. -/
structure BSt (g : Nat) (w0 wr : World) (rb kb : Nat) (K : List UInt8) (u : Value) (ps : List Pt) : Prop where
  blk : Blk wr rb #[u] 63
  row : wr.ownsRow (rb + 1) 67 2 u ps.length (ps.flatMap ptV)
  key : BytesAt wr kb K 26
  bel : Below g w0 wr
  le : g ≤ rb
  ne : kb < rb
theorem BSt.below {g rb kb : Nat} {w0 wr wr' : World} {K : List UInt8} {u : Value} {ps : List Pt} (h : BSt g w0 wr rb kb K u ps) (hB : Below wr.heap.size wr wr') : BSt g w0 wr' rb kb K u ps :=
  ⟨h.blk.below hB, own_below h.row hB, (hB.block kb (Nat.lt_trans h.ne h.blk.lt)).trans h.key, h.bel.trans (hB.mono (Nat.le_trans h.le (Nat.le_of_lt h.blk.lt))), h.le, h.ne⟩
/-- One point more. -/
theorem BSt.push {g rb kb : Nat} {w0 wr w5 : World} {K : List UInt8} {u v' : Value} {ps : List Pt} {p : Pt} (h : BSt g w0 wr rb kb K u ps)
    (hown : w5.ownsRow (rb + 1) 67 2 v' (ps.length + 1) (ps.flatMap ptV ++ ptV p)) (hgrow : wr.grownBy w5 u.ownBlock) : BSt g w0 (w5.setCell ⟨rb, 0, none⟩ v') rb kb K v' (ps ++ [p]) := by
  have hob : ∀ j, u.ownBlock = some j → rb + 1 ≤ j := fun j e => (h.row.lt j e).1
  have hb5 : Blk w5 rb #[u] 63 := h.blk.grown hgrow (fun e => by have := hob rb e.symm; omega)
  have hlt := h.blk.lt
  have hle := h.le
  have hne := h.ne
  refine ⟨?_, ?_, ?_, ?_, h.le, h.ne⟩
  · have := hb5.set (i := 0) v'
    exact this
  · rw [List.length_append, List.flatMap_append]
    have e : ([p] : List Pt).flatMap ptV = ptV p := by simp
    rw [e]
    exact ownsRow_setCell_below hown (a := ⟨rb, 0, none⟩) (by show rb < rb + 1; omega) v'
  · have h1 : w5.heap[kb]? = _ := (hgrow.block kb (by omega) (fun e => by have := hob kb e.symm; omega)).trans h.key
    exact (Below.heap_setCell w5 ⟨rb, 0, none⟩ v' kb (by show kb ≠ rb; omega)).trans h1
  · exact (h.bel.grown hgrow (by omega) (fun j e => by have := hob j e; omega)).setCell (p := ⟨rb, 0, none⟩) h.le v'
theorem strs3 {W : World} {B : Nat} {a b c : List UInt8} (h0 : W.cell? ⟨B, 0, none⟩ = some (.string (mk a))) (h1 : W.cell? ⟨B, 1, none⟩ = some (.string (mk b))) (h2 : W.cell? ⟨B, 2, none⟩ = some (.string (mk c))) (hB : B < W.heap.size) : Strs W (.slice (some ⟨B, 0, none⟩) 3 3) [a, b, c] :=
  ⟨_, 3, rfl, Nat.le_refl _, fun _ => ⟨B, 0, rfl, hB, fun j x hj => by
    match j, hj with
    | 0, hj => cases hj; exact h0
    | 1, hj => cases hj; exact h1
    | 2, hj => cases hj; exact h2⟩⟩
theorem sum3 (K : List UInt8) (hK : K.length = 16) (a c : List UInt8) (B : Nat) (W : World) (ha : a.length ≤ 1000) (hc : c.length ≤ 1000) (hS : Strs W (.slice (some ⟨B, 0, none⟩) 3 3) [a, [35], c]) :
    Calls Tryd.prog 23 #[.agg (keyV K).toArray, .slice (some ⟨B, 0, none⟩) 3 3] W fun e w' => e = .returned (.int .u64 (sumI K (a ++ 35 :: c))) ∧ Below W.heap.size W w' := by
  obtain ⟨k0, k1, k2, k3, k4, k5, k6, k7, k8, k9, k10, k11, k12, k13, k14, k15, rfl⟩ := list16 hK
  refine (sum_any k0 k1 k2 k3 k4 k5 k6 k7 k8 k9 k10 k11 k12 k13 k14 k15 [a, [35], c] _ W hS (by simp) (by intro x hx; simp at hx; rcases hx with rfl | rfl | rfl <;> first | omega | (simp; done) | (simp; omega))).mono ?_
  rintro e w' ⟨rfl, hb⟩
  refine ⟨?_, hb⟩
  simp
theorem dec_len (i : Nat) (h : i ≤ 1000) : (decL (i : Int)).length ≤ 501 := by
  have := digL_len (b := 10) (by decide) i
  show (digL 10 ((i : Int)).toNat).length ≤ 501
  rw [Int.toNat_natCast]; omega
theorem three_new (w : World) (a b c : Value) (T : TypeId) : (w.alloc (.cells #[a, b, c] T)).cell? ⟨w.heap.size, 0, none⟩ = some a ∧ (w.alloc (.cells #[a, b, c] T)).cell? ⟨w.heap.size, 1, none⟩ = some b ∧ (w.alloc (.cells #[a, b, c] T)).cell? ⟨w.heap.size, 2, none⟩ = some c :=
  ⟨(Blk.new w #[a, b, c] T).cell rfl, (Blk.new w #[a, b, c] T).cell rfl, (Blk.new w #[a, b, c] T).cell rfl⟩
/-- A ring in memory. -/
def Rng (w : World) (rb : Nat) (ps : List Pt) : Prop := ∃ v, Blk w rb #[v] 63 ∧ Pts w v ps
theorem Rng.below {w w' : World} {rb : Nat} {ps : List Pt} (h : Rng w rb ps) (hB : Below w.heap.size w w') : Rng w' rb ps := by
  obtain ⟨v, h1, h2⟩ := h
  exact ⟨v, h1.below hB, h2.below hB⟩
theorem wrapE (z : Int) : wrap64 z = IntKind.i64.wrap z := by unfold wrap64; rw [IntKind.wrap_i64]
theorem greatT (F : List Ent) (k : Nat) (h : k < F.length) : (F.take (k + 1)).foldl (fun (a : Int) x => max a x.2) 1 = max ((F.take k).foldl (fun (a : Int) x => max a x.2) 1) F[k].2 := by
  rw [List.take_succ_eq_append_getElem h, List.foldl_append]; rfl
set_option maxRecDepth 100000 in
set_option maxHeartbeats 8000000 in
theorem build_ok0 (k0 k1 k2 k3 k4 k5 k6 k7 k8 k9 k10 k11 k12 k13 k14 k15 : UInt8) (F : List Ent) (hok : OkR F) (per : Int) (v : Value) (w : World) (hv : Ents w v F) (hT : ∀ x ∈ F, x.1.length ≤ 1000) (he : Env w) :
    Calls Tryd.prog 10 #[.agg #[.int .u8 (k0.toNat : Int), .int .u8 (k1.toNat : Int), .int .u8 (k2.toNat : Int), .int .u8 (k3.toNat : Int), .int .u8 (k4.toNat : Int), .int .u8 (k5.toNat : Int), .int .u8 (k6.toNat : Int), .int .u8 (k7.toNat : Int), .int .u8 (k8.toNat : Int), .int .u8 (k9.toNat : Int), .int .u8 (k10.toNat : Int), .int .u8 (k11.toNat : Int), .int .u8 (k12.toNat : Int), .int .u8 (k13.toNat : Int), .int .u8 (k14.toNat : Int), .int .u8 (k15.toNat : Int)], v, .int .i64 per] w fun e w' => ∃ (rb : Nat) (ys : List Pt), e = .returned (.tuple #[.pointer (some ⟨rb, 0, none⟩), .int .i64 0]) ∧ ys.Perm (ptsAll [k0, k1, k2, k3, k4, k5, k6, k7, k8, k9, k10, k11, k12, k13, k14, k15] per F) ∧ SrtP ys ∧ Rng w' rb ys ∧ w.heap.size ≤ rb ∧ Below w.heap.size w w' := by
  obtain ⟨i0, hi, hy0, hy1, hy2⟩ := info_parts infoPt
  have dC := fun W h => check_any F v W h hok.1 (fun x hx => by have := hT x hx; omega)
  rw [errR_0 hok] at dC
  have hFl := hok.1
  have hFw := hok.2.1
  have hKl : ([k0, k1, k2, k3, k4, k5, k6, k7, k8, k9, k10, k11, k12, k13, k14, k15] : List UInt8).length = 16 := rfl
  have hkb : BytesAt (w.alloc (.cells #[.int .u8 (k0.toNat : Int), .int .u8 (k1.toNat : Int), .int .u8 (k2.toNat : Int), .int .u8 (k3.toNat : Int), .int .u8 (k4.toNat : Int), .int .u8 (k5.toNat : Int), .int .u8 (k6.toNat : Int), .int .u8 (k7.toNat : Int), .int .u8 (k8.toNat : Int), .int .u8 (k9.toNat : Int), .int .u8 (k10.toNat : Int), .int .u8 (k11.toNat : Int), .int .u8 (k12.toNat : Int), .int .u8 (k13.toNat : Int), .int .u8 (k14.toNat : Int), .int .u8 (k15.toNat : Int)] 26)) w.heap.size [k0, k1, k2, k3, k4, k5, k6, k7, k8, k9, k10, k11, k12, k13, k14, k15] 26 := blkNew _ _
  have hb1 := (Below.refl _ w).alloc (Nat.le_refl _) (.cells #[.int .u8 (k0.toNat : Int), .int .u8 (k1.toNat : Int), .int .u8 (k2.toNat : Int), .int .u8 (k3.toNat : Int), .int .u8 (k4.toNat : Int), .int .u8 (k5.toNat : Int), .int .u8 (k6.toNat : Int), .int .u8 (k7.toNat : Int), .int .u8 (k8.toNat : Int), .int .u8 (k9.toNat : Int), .int .u8 (k10.toNat : Int), .int .u8 (k11.toNat : Int), .int .u8 (k12.toNat : Int), .int .u8 (k13.toNat : Int), .int .u8 (k14.toNat : Int), .int .u8 (k15.toNat : Int)] 26)
  have hv1 := hv.below hb1
  obtain ⟨A, cp, rfl, hcp, hr⟩ := hv
  have hz1 : w.heap.size < (w.alloc (.cells #[.int .u8 (k0.toNat : Int), .int .u8 (k1.toNat : Int), .int .u8 (k2.toNat : Int), .int .u8 (k3.toNat : Int), .int .u8 (k4.toNat : Int), .int .u8 (k5.toNat : Int), .int .u8 (k6.toNat : Int), .int .u8 (k7.toNat : Int), .int .u8 (k8.toNat : Int), .int .u8 (k9.toNat : Int), .int .u8 (k10.toNat : Int), .int .u8 (k11.toNat : Int), .int .u8 (k12.toNat : Int), .int .u8 (k13.toNat : Int), .int .u8 (k14.toNat : Int), .int .u8 (k15.toNat : Int)] 26)).heap.size := by simp
  have hPdef : ptsAll [k0, k1, k2, k3, k4, k5, k6, k7, k8, k9, k10, k11, k12, k13, k14, k15] per F = F.flatMap (ptsE [k0, k1, k2, k3, k4, k5, k6, k7, k8, k9, k10, k11, k12, k13, k14, k15] (perN per) (great1 F)) := rfl
  go_enter Tryd.func10, Tryd.ntmps10
  go_wp2_with (go_at_call 22; refine (dC _ hv1).mono ?_; rintro e w2 ⟨rfl, hb2⟩)
  generalize w.alloc (.cells #[.int .u8 (k0.toNat : Int), .int .u8 (k1.toNat : Int), .int .u8 (k2.toNat : Int), .int .u8 (k3.toNat : Int), .int .u8 (k4.toNat : Int), .int .u8 (k5.toNat : Int), .int .u8 (k6.toNat : Int), .int .u8 (k7.toNat : Int), .int .u8 (k8.toNat : Int), .int .u8 (k9.toNat : Int), .int .u8 (k10.toNat : Int), .int .u8 (k11.toNat : Int), .int .u8 (k12.toNat : Int), .int .u8 (k13.toNat : Int), .int .u8 (k14.toNat : Int), .int .u8 (k15.toNat : Int)] 26) = w1 at *
  generalize hKd0 : ([k0, k1, k2, k3, k4, k5, k6, k7, k8, k9, k10, k11, k12, k13, k14, k15] : List UInt8) = K at *
  have hKd := Lib.hid hKd0
  clear hKd0
  have hb12 := hb1.trans (hb2.mono hb1.size)
  have hk2 : BytesAt w2 w.heap.size K 26 := (hb2.block _ hz1).trans hkb
  have hrg := perN_rng per
  have hz2' : w.heap.size < w2.heap.size := Nat.lt_of_lt_of_le hz1 hb2.size
  have hperm := Lib.hid (show (max 1 (min per 256) : Int) = perN per from rfl)
  generalize hg : w.heap.size = g at *
  clear hkb hb1 hb2 hv1 hz1 dC
  have hPd2 := Lib.hid hPdef
  clear hPdef
  go_loopw [9, 26] (fun gv iv wr => ∃ k : Nat, k ≤ F.length ∧ iv = .int .i64 k ∧ gv = .int .i64 ((F.take k).foldl (fun (a : Int) x => max a x.2) 1) ∧ BytesAt wr g K 26 ∧ Below g w wr ∧ g < wr.heap.size) (fun _ iv _ => F.length - (intOf iv).toNat)
  case atStart => exact ⟨0, Nat.zero_le _, rfl, by simp, hk2, hb12, hz2'⟩
  case round =>
    obtain ⟨k, hk, rfl, rfl, hkb, hb, hgl⟩ := hrel
    by_cases c1 : k < F.length
    · obtain ⟨b, o, rfl, hlt, hx⟩ := hr (by omega)
      have hx0 := hx k F[k] (by simp [c1])
      have hc0 := (hb.cell (p := ⟨b, o + k * 2, none⟩) (by show b < g; omega)).trans hx0.1
      have hc1 := (hb.cell (p := ⟨b, o + k * 2 + 1, none⟩) (by show b < g; omega)).trans hx0.2
      have hnx := Lib.hid (greatT F k c1)
      generalize (F.take k).foldl (fun (a : Int) x => max a x.2) 1 = gr at *
      generalize F[k] = x at *
      clear hx0 hx
      go_wp2
      go_roundw
      case rel => exact ⟨k + 1, by omega, by go_num, by rw [hnx.out], (Below.heap_alloc _ _ _ (by omega)).trans hkb, hb.alloc (by omega) _, by simp; omega⟩
      case measure => simp [intOf]; omega
    · have hkl : F.take k = F := List.take_of_length_le (by omega)
      rw [hkl]
      have hgw := great_ge F 1
      have hgw2 := great_le F 65535 1 (by omega) (fun x hx => (hFw x hx).2)
      have hG : F.foldl (fun (a : Int) x => max a x.2) 1 = great1 F := rfl
      rw [hG] at hgw hgw2 ⊢
      clear hk2 hb12 hz2' hkl hG
      generalize great1 F = gr at *
      go_wp2
      have hst0 : BSt g w (wr.alloc (.cells #[.slice none 0 0] 63)) wr.heap.size g K (.slice none 0 0) [] := ⟨Blk.new _ _ _, World.ownsRow_nil _ _ _ _, (Below.heap_alloc _ _ _ hgl).trans hkb, hb.alloc (by omega) _, by omega, hgl⟩
      generalize wr.alloc (.cells #[.slice none 0 0] 63) = w3 at *
      generalize wr.heap.size = rb at *
      rw [hperm.out]
      clear hperm
      generalize perN per = pn at *
      obtain ⟨p1, p2⟩ := hrg
      obtain ⟨gr1, hgx⟩ := hgw
      have hst0' : BSt g w w3 rb g K (.slice none 0 0) ((F.take 0).flatMap (ptsE K pn gr)) := hst0
      clear hst0 hkb hb hgl
      have hgr0 : ¬ gr = 0 := by omega
      go_loopw [39] (fun iv wr => ∃ (k : Nat) (u : Value), k ≤ F.length ∧ iv = .int .i64 k ∧ BSt g w wr rb g K u ((F.take k).flatMap (ptsE K pn gr))) (fun iv _ => F.length - (intOf iv).toNat)
      case atStart => exact ⟨0, _, Nat.zero_le _, rfl, hst0'⟩
      case round =>
        clear hst0'
        obtain ⟨k, u, hk, rfl, hst⟩ := hrel
        by_cases c2 : k < F.length
        · obtain ⟨b, o, rfl, hlt, hx⟩ := hr (by omega)
          have hx0 := hx k F[k] (by simp [c2])
          have hb := hst.bel
          have hc0 := (hb.cell (p := ⟨b, o + k * 2, none⟩) (by show b < g; omega)).trans hx0.1
          have hc1 := (hb.cell (p := ⟨b, o + k * 2 + 1, none⟩) (by show b < g; omega)).trans hx0.2
          have hxm : F[k] ∈ F := List.getElem_mem _
          have hxw := hFw _ hxm
          have hxg := hgx _ hxm
          have hxl := hT _ hxm
          have hnx := Lib.hid (show (F.take (k + 1)).flatMap (ptsE K pn gr) = (F.take k).flatMap (ptsE K pn gr) ++ ptsE K pn gr F[k] by rw [List.take_succ_eq_append_getElem c2, List.flatMap_append]; simp)
          have hBl := flatMap_len (ptsE K pn gr) 256 (F.take k) (fun y hy => by
            have h1 := List.mem_of_mem_take hy
            have h2 := cntE_rng p1 p2 (hFw _ h1).1 (hgx _ h1)
            unfold ptsE; rw [List.length_map, List.length_range]; omega)
          rw [List.length_take] at hBl
          have hBl2 : ((F.take k).flatMap (ptsE K pn gr)).length ≤ 262144 := by
            have : min k F.length * 256 ≤ 1024 * 256 := Nat.mul_le_mul_right _ (by omega)
            omega
          clear hBl
          generalize (F.take k).flatMap (ptsE K pn gr) = bs at *
          generalize F[k] = x at *
          clear hx0 hx hxm
          have hcn := cntE_rng p1 p2 hxw.1 hxg
          have hm1 : pn * x.2 ≤ 256 * 65535 := Int.mul_le_mul p2 hxw.2 (by omega) (by omega)
          have hm0 : 0 ≤ pn * x.2 := Int.mul_nonneg (by omega) (by omega)
          have hpE := Lib.hid (show ptsE K pn gr x = (List.range (cntE pn gr x.2).toNat).map (ptOf K x.1) from rfl)
          have hcE : cntE pn gr x.2 = max 1 (pn * x.2 / gr) := rfl
          obtain ⟨n, hn⟩ := Int.eq_ofNat_of_zero_le (show 0 ≤ cntE pn gr x.2 by omega)
          rw [hn] at hcE hcn hpE
          rw [Int.toNat_natCast] at hpE
          clear hn
          have hs49 := Lib.hid (show max 1 (wrap64 ((wrap64 (pn * x.2)).tdiv gr)) = (n : Int) by
            have hd := cntE_rng p1 p2 hxw.1 hxg
            unfold cntE at hd
            have hd0 : 0 ≤ pn * x.2 / gr := Int.ediv_nonneg hm0 (by omega)
            rw [wrapE, wrapE, IntWalk.i64_in (pn * x.2) (by omega), Int.tdiv_eq_ediv_of_nonneg hm0, IntWalk.i64_in _ (by omega)]
            exact hcE.symm)
          clear hcE hm0 hm1
          have hst' := Lib.hid (hst.below ((Below.refl _ wr).alloc (Nat.le_refl _) (.cells #[.string (mk x.1), .int .i64 x.2] 58)))
          have hqe := Blk.new wr #[.string (mk x.1), .int .i64 x.2] 58
          have hrq := hst.blk.lt
          clear hst hb
          go_wp2
          generalize wr.alloc (.cells #[.string (mk x.1), .int .i64 x.2] 58) = w4 at *
          generalize wr.heap.size = qe at *
          have hst4 : BSt g w w4 rb g K u (bs ++ (List.range 0).map (ptOf K x.1)) := by simpa using hst'.out
          clear hst' hc0 hc1
          rw [hs49.out]
          clear hs49 hxw hxg
          have hKl' := hKl
          go_loopw [50] (fun iv wr => ∃ (j : Nat) (u : Value), j ≤ n ∧ iv = .int .i64 j ∧ BSt g w wr rb g K u (bs ++ (List.range j).map (ptOf K x.1)) ∧ Blk wr qe #[.string (mk x.1), .int .i64 x.2] 58) (fun iv _ => n - (intOf iv).toNat)
          case atStart => exact ⟨0, _, Nat.zero_le _, rfl, hst4, hqe⟩
          case round =>
            clear hst4 hqe
            obtain ⟨j, u, hj, rfl, hst0, hqe⟩ := hrel
            by_cases c3 : j < n
            · have c3' : (j : Int) < (n : Int) := by omega
              have hst := Lib.hid hst0
              have hpl : (bs ++ (List.range j).map (ptOf K x.1)).length ≤ 300000 := by rw [List.length_append, List.length_map, List.length_range]; omega
              have hnx2 := Lib.hid (show (bs ++ (List.range j).map (ptOf K x.1)) ++ [ptOf K x.1 j] = bs ++ (List.range (j + 1)).map (ptOf K x.1) by rw [List.range_succ, List.map_append, List.append_assoc]; rfl)
              have heR : Env wr := he.below (by rw [hg]; exact hst0.bel)
              have dD : ∀ W, Kps wr.heap.size wr W → Calls Tryd.prog 24 #[.int .i64 (j : Int)] W fun e w' => e = .returned (.string (mk (decL (j : Int)))) ∧ Below W.heap.size W w' := fun W h => digits_any (j : Int) (by omega) W (heR.below h.1)
              have hdl := dec_len j (by omega)
              have dS := fun B W h => sum3 K hKl x.1 (decL (j : Int)) B W (by omega) (by omega) h
              have hkr := bytesRange hst0.key
              have hcr : wr.cell? ⟨rb, 0, none⟩ = some u := hst0.blk.cell rfl
              have hcq : wr.cell? ⟨qe, 0, none⟩ = some (.string (mk x.1)) := hqe.cell rfl
              have hrl := hst0.blk.lt
              have hql := hqe.lt
              have hgl : g < wr.heap.size := Nat.lt_trans hst0.ne hrl
              have hrg1 := hst0.ne
              have hSS : ∀ w', Kps wr.heap.size wr w' → (w'.rangeAt g 0 (keyV K) ∧ w'.cell? ⟨rb, 0, none⟩ = some u ∧ w'.cell? ⟨qe, 0, none⟩ = some (.string (mk x.1))) := fun w' hk => ⟨hk.range hgl hkr, hk.cell hrl hcr, hk.cell hql hcq⟩
              have hAfter : ∀ W w5, Kps wr.heap.size wr W → W.grownBy w5 u.ownBlock → (w5.rangeAt g 0 (keyV K) ∧ w5.cell? ⟨rb, 0, none⟩ = some u ∧ w5.cell? ⟨qe, 0, none⟩ = some (.string (mk x.1))) := fun W w5 hk hgr => by
                have h1 := hst.out.below hk.1
                have hob : ∀ j, u.ownBlock = some j → rb + 1 ≤ j := fun j e => (h1.row.lt j e).1
                have hz := hk.2
                have e1 : BytesAt w5 g K 26 := (hgr.block g (by omega) (fun e => by have := hob g e.symm; omega)).trans h1.key
                have e2 := h1.blk.grown hgr (fun e => by have := hob rb e.symm; omega)
                have e3 := (hqe.below hk.1).grown hgr ((hqe.below hk.1).ne_row (by decide) h1.row)
                exact ⟨bytesRange e1, e2.cell rfl, e3.cell rfl⟩
              have hK0 : Kps wr.heap.size wr wr.drew := ⟨(Below.refl _ wr).drew, Nat.le_refl _⟩
              have hcsz : (Tryd.prog.info? 26).map (·.size) = some (keyV K).length := by
                rw [show (keyV K).length = 16 by unfold keyV; rw [List.length_map, hKl]]; kernel_rfl
              have hcu := Tryd.underlying26
              have hptv : ptV (ptOf K x.1 j) = [.int .u64 (sumI K (x.1 ++ 35 :: decL (j : Int))), .string (mk x.1)] := rfl
              generalize hPJ : bs ++ (List.range j).map (ptOf K x.1) = PJ at *
              clear hst0 hkr hPJ
              go_wp2
              refine HG.start (n := 17) (S := fun w' => w'.rangeAt g 0 (keyV K) ∧ w'.cell? ⟨rb, 0, none⟩ = some u ∧ w'.cell? ⟨qe, 0, none⟩ = some (.string (mk x.1))) (by kernel_rfl) (by decide) (hSS _ hK0) (fun hHeld => ?_)
              repeat' (first
              | (refine HG.take (i := 5) (oi := { dst := some 58, op := Op.load 26 (Operand.tmp 3), type := 26, pos := "ring.go:63", after := #[], guard := none }) (v := _) rfl (by decide +kernel) (by decide) (by decide +kernel) (by decide +kernel) (fun _ _ _ h => h) (yieldsIf_load_mid (by rfl) _ _ rfl _ _ rfl _ _ (fun w' hw' => hw'.1) hcu rfl hcsz) hHeld ?_; simp only [Act.put, List.setIfInBounds_toArray, List.set_cons_zero, List.set_cons_succ])
              | (refine HG.take (i := 0) (oi := { dst := some 53, op := Op.move (Operand.tmp 12), type := 28, pos := "ring.go:63", after := #[], guard := none }) (v := ?_) rfl (by decide +kernel) (by decide) (by decide +kernel) (by decide +kernel) (fun _ _ _ h => h) (Or.inl ⟨by rfl, ?_⟩) hHeld ?_; rotate_left; (focus (intro w' hSw; (try dsimp only at hSw); go_simp; (try with_reducible rfl); done)); simp only [Act.put, List.setIfInBounds_toArray, List.set_cons_zero, List.set_cons_succ])
              | (refine HG.take (i := 1) (oi := { dst := some 54, op := Op.move (Operand.tmp 12), type := 28, pos := "ring.go:63", after := #[], guard := none }) (v := ?_) rfl (by decide +kernel) (by decide) (by decide +kernel) (by decide +kernel) (fun _ _ _ h => h) (Or.inl ⟨by rfl, ?_⟩) hHeld ?_; rotate_left; (focus (intro w' hSw; (try dsimp only at hSw); go_simp; (try with_reducible rfl); done)); simp only [Act.put, List.setIfInBounds_toArray, List.set_cons_zero, List.set_cons_succ])
              | (refine HG.take (i := 2) (oi := { dst := some 55, op := Op.nilCheck (Operand.tmp 54), type := 0, pos := "ring.go:63", after := #[{ on := 1, ground := Ground.data }], guard := none }) (v := ?_) rfl (by decide +kernel) (by decide) (by decide +kernel) (by decide +kernel) (fun _ _ _ h => h) (Or.inl ⟨by rfl, ?_⟩) hHeld ?_; rotate_left; (focus (intro w' hSw; (try dsimp only at hSw); go_simp; (try with_reducible rfl); done)); simp only [Act.put, List.setIfInBounds_toArray, List.set_cons_zero, List.set_cons_succ])
              | (refine HG.take (i := 3) (oi := { dst := some 56, op := Op.fieldAddr 63 (Operand.tmp 55) 0, type := 0, pos := "ring.go:63", after := #[{ on := 2, ground := Ground.data }], guard := none }) (v := ?_) rfl (by decide +kernel) (by decide) (by decide +kernel) (by decide +kernel) (fun _ _ _ h => h) (Or.inl ⟨by rfl, ?_⟩) hHeld ?_; rotate_left; (focus (intro w' hSw; (try dsimp only at hSw); go_simp; (try with_reducible rfl); done)); simp only [Act.put, List.setIfInBounds_toArray, List.set_cons_zero, List.set_cons_succ])
              | (refine HG.take (i := 4) (oi := { dst := some 57, op := Op.load 61 (Operand.tmp 56), type := 61, pos := "ring.go:63", after := #[{ on := 3, ground := Ground.data }], guard := none }) (v := ?_) rfl (by decide +kernel) (by decide) (by decide +kernel) (by decide +kernel) (fun _ _ _ h => h) (Or.inl ⟨by rfl, ?_⟩) hHeld ?_; rotate_left; (focus (intro w' hSw; (try dsimp only at hSw); go_simp; (try with_reducible rfl); done)); simp only [Act.put, List.setIfInBounds_toArray, List.set_cons_zero, List.set_cons_succ])
              | (refine HG.take (i := 6) (oi := { dst := some 59, op := Op.fieldAddr 58 (Operand.tmp 14) 0, type := 0, pos := "ring.go:63", after := #[], guard := none }) (v := ?_) rfl (by decide +kernel) (by decide) (by decide +kernel) (by decide +kernel) (fun _ _ _ h => h) (Or.inl ⟨by rfl, ?_⟩) hHeld ?_; rotate_left; (focus (intro w' hSw; (try dsimp only at hSw); go_simp; (try with_reducible rfl); done)); simp only [Act.put, List.setIfInBounds_toArray, List.set_cons_zero, List.set_cons_succ])
              | (refine HG.take (i := 7) (oi := { dst := some 60, op := Op.load 9 (Operand.tmp 59), type := 9, pos := "ring.go:63", after := #[{ on := 6, ground := Ground.data }], guard := none }) (v := ?_) rfl (by decide +kernel) (by decide) (by decide +kernel) (by decide +kernel) (fun _ _ _ h => h) (Or.inl ⟨by rfl, ?_⟩) hHeld ?_; rotate_left; (focus (intro w' hSw; (try dsimp only at hSw); go_simp; (try with_reducible rfl); done)); simp only [Act.put, List.setIfInBounds_toArray, List.set_cons_zero, List.set_cons_succ])
              | (refine HG.take (i := 8) (oi := { dst := some 61, op := Op.move (Operand.tmp 15), type := 3, pos := "ring.go:63", after := #[], guard := none }) (v := ?_) rfl (by decide +kernel) (by decide) (by decide +kernel) (by decide +kernel) (fun _ _ _ h => h) (Or.inl ⟨by rfl, ?_⟩) hHeld ?_; rotate_left; (focus (intro w' hSw; (try dsimp only at hSw); go_simp; (try with_reducible rfl); done)); simp only [Act.put, List.setIfInBounds_toArray, List.set_cons_zero, List.set_cons_succ])
              | (refine HG.take (i := 12) (oi := { dst := some 65, op := Op.fieldAddr 58 (Operand.tmp 14) 0, type := 0, pos := "ring.go:63", after := #[], guard := none }) (v := ?_) rfl (by decide +kernel) (by decide) (by decide +kernel) (by decide +kernel) (fun _ _ _ h => h) (Or.inl ⟨by rfl, ?_⟩) hHeld ?_; rotate_left; (focus (intro w' hSw; (try dsimp only at hSw); go_simp; (try with_reducible rfl); done)); simp only [Act.put, List.setIfInBounds_toArray, List.set_cons_zero, List.set_cons_succ])
              | (refine HG.take (i := 13) (oi := { dst := some 66, op := Op.load 9 (Operand.tmp 65), type := 9, pos := "ring.go:63", after := #[{ on := 12, ground := Ground.data }], guard := none }) (v := ?_) rfl (by decide +kernel) (by decide) (by decide +kernel) (by decide +kernel) (fun _ _ _ h => h) (Or.inl ⟨by rfl, ?_⟩) hHeld ?_; rotate_left; (focus (intro w' hSw; (try dsimp only at hSw); go_simp; (try with_reducible rfl); done)); simp only [Act.put, List.setIfInBounds_toArray, List.set_cons_zero, List.set_cons_succ])
              | (refine HG.take (i := 14) (oi := { dst := some 67, op := Op.build 67 #[(0, Operand.tmp 64), (1, Operand.tmp 66)], type := 67, pos := "ring.go:63", after := #[{ on := 11, ground := Ground.data }, { on := 13, ground := Ground.data }], guard := none }) (v := ?_) rfl (by decide +kernel) (by decide) (by decide +kernel) (by decide +kernel) (fun _ _ _ h => h) (Or.inl ⟨by rfl, ?_⟩) hHeld ?_; rotate_left; (focus (intro w' hSw; (try dsimp only at hSw); go_simp; (try with_reducible rfl); done)); simp only [Act.put, List.setIfInBounds_toArray, List.set_cons_zero, List.set_cons_succ])
              | (refine HG.ready (rs := [9]) (by decide +kernel) (by simp) (AllG.cons (o := _) rfl (by decide) (fun KK hK => ?_) AllG.nil); (go_simp; (try (first | (go_at_call 24; (with_reducible refine (dD _ hK0).mono ?_); rintro e w1 ⟨rfl, hb1⟩; have hkA := hK0.call hb1; go_wp2_with fail) | (go_at_call 23; (refine (dS _ _ (strs3 (three_new w1 _ _ _ _).1 (three_new w1 _ _ _ _).2.1 (three_new w1 _ _ _ _).2.2 (by simp))).mono ?_); rintro e w2 ⟨rfl, hb2⟩; have hkB := (hkA.alloc _).call hb2; go_wp2_with fail))); refine hK.out _ _ (by first | exact hSS _ hkA | exact hSS _ (hkA.alloc _) | exact hSS _ hkB | exact hSS _ (hkB.alloc _)) (fun hHeld => ?_); clear hK KK; (try simp only [Act.put, List.setIfInBounds_toArray, List.set_cons_zero, List.set_cons_succ])))
              | (refine HG.ready (rs := [10]) (by decide +kernel) (by simp) (AllG.cons (o := _) rfl (by decide) (fun KK hK => ?_) AllG.nil); (go_simp; (try (first | (go_at_call 24; (with_reducible refine (dD _ hK0).mono ?_); rintro e w1 ⟨rfl, hb1⟩; have hkA := hK0.call hb1; go_wp2_with fail) | (go_at_call 23; (refine (dS _ _ (strs3 (three_new w1 _ _ _ _).1 (three_new w1 _ _ _ _).2.1 (three_new w1 _ _ _ _).2.2 (by simp))).mono ?_); rintro e w2 ⟨rfl, hb2⟩; have hkB := (hkA.alloc _).call hb2; go_wp2_with fail))); refine hK.out _ _ (by first | exact hSS _ hkA | exact hSS _ (hkA.alloc _) | exact hSS _ hkB | exact hSS _ (hkB.alloc _)) (fun hHeld => ?_); clear hK KK; (try simp only [Act.put, List.setIfInBounds_toArray, List.set_cons_zero, List.set_cons_succ])))
              | (refine HG.ready (rs := [11]) (by decide +kernel) (by simp) (AllG.cons (o := _) rfl (by decide) (fun KK hK => ?_) AllG.nil); (go_simp; (try (first | (go_at_call 24; (with_reducible refine (dD _ hK0).mono ?_); rintro e w1 ⟨rfl, hb1⟩; have hkA := hK0.call hb1; go_wp2_with fail) | (go_at_call 23; (refine (dS _ _ (strs3 (three_new w1 _ _ _ _).1 (three_new w1 _ _ _ _).2.1 (three_new w1 _ _ _ _).2.2 (by simp))).mono ?_); rintro e w2 ⟨rfl, hb2⟩; have hkB := (hkA.alloc _).call hb2; go_wp2_with fail))); refine hK.out _ _ (by first | exact hSS _ hkA | exact hSS _ (hkA.alloc _) | exact hSS _ hkB | exact hSS _ (hkB.alloc _)) (fun hHeld => ?_); clear hK KK; (try simp only [Act.put, List.setIfInBounds_toArray, List.set_cons_zero, List.set_cons_succ])))
              | (refine HG.ready (rs := [15]) (by decide +kernel) (by simp) (AllG.cons (o := _) rfl (by decide) (fun KK hK => ?_) AllG.nil); (go_simp; (try (first | (go_at_call 24; (with_reducible refine (dD _ hK0).mono ?_); rintro e w1 ⟨rfl, hb1⟩; have hkA := hK0.call hb1; go_wp2_with fail) | (go_at_call 23; (refine (dS _ _ (strs3 (three_new w1 _ _ _ _).1 (three_new w1 _ _ _ _).2.1 (three_new w1 _ _ _ _).2.2 (by simp))).mono ?_); rintro e w2 ⟨rfl, hb2⟩; have hkB := (hkA.alloc _).call hb2; go_wp2_with fail))); refine hK.out _ _ (by first | exact hSS _ hkA | exact hSS _ (hkA.alloc _) | exact hSS _ hkB | exact hSS _ (hkB.alloc _)) (fun hHeld => ?_); clear hK KK; (try simp only [Act.put, List.setIfInBounds_toArray, List.set_cons_zero, List.set_cons_succ])))
              | fail)

              have hkC : Kps wr.heap.size wr (w2.alloc (.cells #[.int .u64 (sumI K (x.1 ++ 35 :: decL (j : Int))), .string (mk x.1)] 67)) := hkB.alloc _
              have hstC := hst.out.below hkC.1
              refine HG.ready (rs := [16]) (by decide +kernel) (by simp) (AllG.cons (o := _) rfl (by decide) (fun KK hK => ?_) AllG.nil)
              refine step_append_own (by rfl) _ _ 61 (by rfl) (rb + 1) 67 i0 _ 2 24 Tryd.underlying61 hi hy0 hy1 hy2 rfl (by decide) u _ _ (by rfl) hstC.row ⟨w2.heap.size, 0, none⟩ 1 1 (ptV (ptOf K x.1 j)) (by rfl) (by rfl) (World.news_of_block (heap_alloc_new w2 _)) (by simp [ptV, Value.oneCell']) (by unfold maxLen; omega) (by omega) (by have := hkC.2; omega) ?_
              intro v' w5 hown' hgrow
              obtain ⟨A', c', rfl⟩ := row_slice hown'
              have hS5 := hAfter _ _ hkC hgrow
              refine hK.out _ _ hS5 (fun hHeld => ?_)
              clear hK KK
              have hst5 := hstC.push hown' hgrow
              rw [hnx2.out] at hst5
              have hq5 : Blk w5 qe #[.string (mk x.1), .int .i64 x.2] 58 := (hqe.below hkC.1).grown hgrow ((hqe.below hkC.1).ne_row (by decide) hstC.row)
              have hq6 := fun v => hq5.far (c := rb) (i := 0) v (by omega)
              have hf5 : w5.frozen? ⟨rb, 0, none⟩ = false := (hstC.blk.grown hgrow (fun e => by have := (hstC.row.lt rb e.symm).1; omega)).free
              have hc5 := hS5.2.1
              clear hS5 hHeld hstC hkC hkB hkA hSS hAfter hown' hgrow hq5 hnx2
              refine HG.done (by decide +kernel) ?_
              simp only [List.drop_succ_cons, List.drop_zero]
              go_wp2
              go_roundw
              case rel => exact ⟨j + 1, _, by omega, by go_num, hst5, hq6 _⟩
              case measure => simp [intOf]; omega
            · have hjn : j = n := by omega
              subst hjn
              rw [← hpE.out] at hst0
              rw [← hnx.out] at hst0
              go_wp2
              go_roundw
              case rel => exact ⟨k + 1, _, by omega, by go_num, hst0⟩
              case measure => simp [intOf]; omega
        · have hkl : F.take k = F := List.take_of_length_le (by omega)
          rw [hkl, ← hPd2.out] at hst
          have hpl : (ptsAll K per F).length ≤ 1000000000000 := by
            rw [hPd2.out]
            have hBl := flatMap_len (ptsE K pn gr) 256 F (fun y hy => by
              have h2 := cntE_rng p1 p2 (hFw _ hy).1 (hgx _ hy)
              unfold ptsE; rw [List.length_map, List.length_range]; omega)
            have : F.length * 256 ≤ 1024 * 256 := Nat.mul_le_mul_right _ (by omega)
            omega
          have dSt := sortRowP_any (rb + 1) (ptsAll K per F) u wr hst.row hpl
          have hcr : wr.cell? ⟨rb, 0, none⟩ = some u := hst.blk.cell rfl
          generalize hPS0 : ptsAll K per F = ps at *
          have hPS := Lib.hid hPS0
          have hst' := Lib.hid hst
          clear hPS0
          clear hst hPd2 hpl hkl
          go_wp2_with (go_at_call 25; refine dSt.mono ?_; rintro e w6 ⟨rfl, ys, hpm, hsr, hPt, hb6⟩)
          go_ret2
          rw [hKd.out, hPS.out, hg]
          exact ⟨rb, ys, rfl, hpm, hsr, ⟨u, (hb6.block rb (by omega)).trans hst'.out.blk, hPt⟩, hst'.out.le, hst'.out.bel.trans (hb6.mono (by have := hst'.out.le; omega))⟩
end Go.Proofs.YtiamkhhnnlgemaaDoor.Ri
