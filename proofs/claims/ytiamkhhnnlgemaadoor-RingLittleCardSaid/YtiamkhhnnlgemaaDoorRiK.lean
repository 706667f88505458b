/- The ring's Pick. -/
import Derived.Test.YtiamkhhnnlgemaaDoorRiJ
namespace Go.Proofs.YtiamkhhnnlgemaaDoor.Ri
open Go.RowKit Go.Shelf Go.Proofs.YtiamkhhnnlgemaaDoor.Sip
set_option linter.unusedVariables false
attribute [local go_sem] Oper.semAt_some
theorem fromN_lt (ps : List Pt) (x : Int) : ps = [] ∨ fromN ps x < ps.length := by
  by_cases h : ps = []
  · exact .inl h
  · right
    have h0 : 0 < ps.length := List.length_pos_iff.2 h
    have h1 := lbN_le ps x
    unfold fromN
    split <;> omega
/-- Who answers. -/
def pickS (ps : List Pt) (x : Int) : List UInt8 := match (roundL ps (fromN ps x))[0]? with
  | none => []
  | some p => p.2
theorem blk_keep {X Y : World} {B : Nat} {cs : Array Value} {t : TypeId} {row : Option Nat} (h : Blk X B cs t) (hg : X.grownBy Y row) (hrow : ∀ r, row = some r → ∃ o, X.heap[r]? = some o ∧ o.isCells = false) : Blk Y B cs t :=
  (hg.block B h.lt (fun e' => by obtain ⟨o, ho, hc⟩ := hrow B e'.symm; rw [show X.heap[B]? = _ from h] at ho; cases ho; cases hc)).trans h
set_option maxRecDepth 100000 in
set_option maxHeartbeats 2000000 in
theorem pick_any (ps : List Pt) (hs : SrtP ps) (x : Int) (rb : Nat) (w : World) (hv : Rng w rb ps) (hN : ps.length ≤ 1000000) :
    Calls Tryd.prog 17 #[.pointer (some ⟨rb, 0, none⟩), .int .u64 x] w fun e w' => e = .returned (.string (mk (pickS ps x))) ∧ Below w.heap.size w w' := by
  have hbA := (Below.refl _ w).alloc (Nat.le_refl _) (.cells #[.string ⟨#[]⟩] 9)
  have hzA : w.heap.size < (w.alloc (.cells #[.string ⟨#[]⟩] 9)).heap.size := by simp
  have hkA := Blk.new w #[.string ⟨#[]⟩] 9
  have dF := from_any ps hs x rb (w.alloc (.cells #[.string ⟨#[]⟩] 9)) (hv.below hbA) hN
  have hfl := fromN_lt ps x
  have hpk : pickS ps x = match (roundL ps (fromN ps x))[0]? with
    | none => []
    | some p => p.2 := rfl
  have hpk' := Lib.hid hpk
  clear hpk
  generalize fromN ps x = a at *
  refine (callsIn_wide (n := 10)).1 ?_
  refine callsIn_of_wp_marks Tryd.func17 rfl trivial ?_ rfl
  simp only [Tryd.ntmps17, List.size_toArray, List.length_cons, List.length_nil, Nat.reduceAdd, Nat.reduceSub, Array.replicate_succ, Array.replicate_zero, List.push_toArray, List.append_toArray, List.nil_append, List.cons_append]
  gi_wp2_with (first
    | (refine ⟨trivial, ?_⟩; gi_at_call 30; refine (callsIn_wide.2 dF).mono ?_; rintro e w1 ⟨rfl, hb1⟩)
    | (refine ⟨trivial, ?_⟩; gi_at_call 29; refine (round_in _ rb a _).mono ?_; rintro e w2 ⟨rfl, rfl⟩))
  have hbW := hbA.trans ((hb1.mono (Nat.le_of_lt hzA)))
  have hg1 : w.heap.size < w1.heap.size := Nat.lt_of_lt_of_le hzA hb1.size
  have hkg1 := hkA.below hb1
  have hB1 := Blk.new w1 #[.pointer (some ⟨rb, 0, none⟩)] 28
  have hB2 := Blk.new (w1.alloc (.cells #[.pointer (some ⟨rb, 0, none⟩)] 28)) #[.int .i64 a] 3
  rw [World.size_alloc] at hB2
  have hB1' := hB1.below ((Below.refl _ _).alloc (Nat.le_refl _) (.cells #[.int .i64 a] 3))
  have hbW2 := (hbW.alloc (Nat.le_of_lt hg1) (.cells #[.pointer (some ⟨rb, 0, none⟩)] 28)).alloc (by simp; omega) (.cells #[.int .i64 a] 3)
  have hkg2 := (hkg1.below ((Below.refl _ _).alloc (Nat.le_refl _) (.cells #[.pointer (some ⟨rb, 0, none⟩)] 28))).below ((Below.refl _ _).alloc (Nat.le_refl _) (.cells #[.int .i64 a] 3))
  have hz2 : w1.heap.size + 1 < ((w1.alloc (.cells #[.pointer (some ⟨rb, 0, none⟩)] 28)).alloc (.cells #[.int .i64 a] 3)).heap.size := by simp
  clear hB1 hbW hkg1 hb1 hkA hbA hzA dF
  generalize (w1.alloc (.cells #[.pointer (some ⟨rb, 0, none⟩)] 28)).alloc (.cells #[.int .i64 a] 3) = w2 at *
  generalize w1.heap.size = q at *
  have hgw2 : w.heap.size ≤ w2.heap.size := by omega
  refine wpIn_rangeFunc_ownH (F := Fence.wide) rfl (by decide) (gf := 43) (lb := #[.pointer (some ⟨q, 0, none⟩), .pointer (some ⟨q + 1, 0, none⟩)]) rfl trivial (enters_of Tryd.func43 (by kernel_rfl) rfl)
    (round_stops 9 (by decide) q (q + 1) rb a ps hN hfl w w2 hv hbW2 hB1' hB2) (fun h k => KpR.trans h k) (KpR.put hgw2 (by omega) (by omega)) (Below.refl _ _) (fun _ => rfl)
    (fun pre W => (pre = [] ∧ Blk W w.heap.size #[.string ⟨#[]⟩] 9 ∧ w2.heap.size ≤ W.heap.size) ∧ Below w.heap.size w W)
    (fun c pre W => (c = .ret ∧ ∃ p : Pt, pre = [p] ∧ Blk W w.heap.size #[.string (mk p.2)] 9) ∧ Below w.heap.size w W)
    (OwnFrom.and (Own.from (fun s X Y row hs hg hr => ⟨hs.1, blk_keep hs.2.1 hg hr, Nat.le_trans hs.2.2 hg.size⟩) _) (ownFrom_below (Nat.le_refl _) hgw2))
    (fun c => OwnFrom.and (Own.from (fun s X Y row hs hg hr => ⟨hs.1, by obtain ⟨p, h1, h2⟩ := hs.2; exact ⟨p, h1, blk_keep h2 hg hr⟩⟩) _) (ownFrom_below (Nat.le_refl _) hgw2))
    ⟨⟨rfl, hkg2, Nat.le_refl _⟩, hbW2⟩
    (fun p a' W => ∃ Bx, w2.heap.size ≤ Bx ∧ Blk W Bx #[.int .u64 p.1, .string (mk p.2)] 67 ∧ a' = { tmps := #[.pointer (some ⟨rb, 0, none⟩), .int .u64 x, undef, undef, .pointer (some ⟨w.heap.size, 0, none⟩), .pointer (some ⟨Bx, 0, none⟩), .pointer (some ⟨rb, 0, none⟩), .pointer (some ⟨rb, 0, none⟩), .int .u64 x, .int .i64 a, .func (.func 43) #[] #[.pointer (some ⟨q, 0, none⟩), .pointer (some ⟨q + 1, 0, none⟩)], .agg #[.int .u64 p.1, .string (mk p.2)], undef, undef], defers := [] })
    (fun p a' _ X Y row hs hg hr => by obtain ⟨Bx, h1, h2, h3⟩ := hs; exact ⟨Bx, h1, blk_keep h2 hg (fun r e => (hr r e).2), h3⟩)
    ?assign ?body ?done ?stop
  case assign =>
    rintro l pre p W K ⟨⟨hpn, hkg, hsz⟩, hB⟩ hK
    unfold ptA at hK ⊢
    gi_wp2
    exact hK _ _ ((KeepsOthers.alloc _ _).from _) ⟨(Below.refl _ W).alloc (by omega) _, Below.heap_alloc _ _ _ (by omega), Below.heap_alloc _ _ _ (by omega)⟩ ⟨⟨hpn, hkg.below ((Below.refl _ _).alloc (Nat.le_refl _) _), by simp; omega⟩, hB.alloc (by omega) _⟩ ⟨W.heap.size, hsz, Blk.new W _ _, rfl⟩
  case body =>
    rintro l pre p a' W hl ⟨r, hr⟩ ⟨⟨rfl, hkg, hsz⟩, hB⟩ ⟨Bx, hBx, bX, rfl⟩ hlt
    have c1 := bX.cell (i := 1) rfl
    have cg := hkg.cell (i := 0) rfl
    have fg := hkg.free (i := 0)
    gi_wp2
    exact ⟨(KeepsOthers.setCell _ _ _).from _, ⟨rfl, p, rfl, hkg.set (i := 0) (.string (mk p.2))⟩, hB.setCell (p := ⟨w.heap.size, 0, none⟩) (Nat.le_refl _) _⟩
  case done =>
    rintro D ys W hD rfl ⟨⟨hnil, hkg, hsz⟩, hB⟩ hK
    have hX := Lib.hid (show pickS ps x = [] by rw [hpk'.out, hnil]; rfl)
    have cg := hkg.cell (i := 0) rfl
    have fg := hkg.free (i := 0)
    gi_wp2
    have hK' := (KeepsOthers.setCell W ⟨w.heap.size, 0, none⟩ (.string ⟨#[]⟩)).same D _ hK rfl
    refine ⟨by simp, .inl ⟨_, _, rfl, run_takeDeferred hK', ?_⟩⟩
    have hc5 := cell_kept ((hkg.set (i := 0) (.string ⟨#[]⟩)).cell (i := 0) (v := .string ⟨#[]⟩) rfl) (grownBy_putObj' _ D (.deferred none)) (fun r e => by cases e; exact ⟨_, hK', rfl⟩)
    refine ⟨.string ⟨#[]⟩, ?_, by rw [hX.out]; rfl, (hB.setCell (p := ⟨w.heap.size, 0, none⟩) (Nat.le_refl _) _).trans (belowK_b (w := w) (Nat.le_refl _) _ D _ _ (by omega) hK' rfl rfl)⟩
    simp [results, Tryd.f17, go_sem, hc5]
  case stop =>
    rintro D c pre W hD hpre ⟨⟨rfl, p, rfl, hkp⟩, hB⟩ hK
    have hX := Lib.hid (show pickS ps x = p.2 by
      obtain ⟨t, ht⟩ := hpre
      rw [hpk'.out, ← ht]; rfl)
    gi_wp2
    refine ⟨by simp, .inl ⟨_, _, rfl, run_takeDeferred hK, ?_⟩⟩
    have hc5 := cell_kept (hkp.cell (i := 0) rfl) (grownBy_putObj' _ D (.deferred none)) (fun r e => by cases e; exact ⟨_, hK, rfl⟩)
    refine ⟨.string (mk p.2), ?_, by rw [hX.out], hB.trans (belowK_b (w := w) (Nat.le_refl _) W D _ _ (by omega) hK rfl rfl)⟩
    simp [results, Tryd.f17, go_sem, hc5]
end Go.Proofs.YtiamkhhnnlgemaaDoor.Ri
