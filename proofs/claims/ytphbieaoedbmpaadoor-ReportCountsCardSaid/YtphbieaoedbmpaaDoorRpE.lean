/- Report.Note. -/
import Derived.Test.YtphbieaoedbmpaaDoorRpD
import Derived.Deep.RegionLaw
import Derived.Deep.CutBlock
import Derived.Deep.DeepCutAuto
namespace Go.Proofs.YtphbieaoedbmpaaDoor.Rp
open Go.RowKit Go.Maps Go.Sort Go.Shelf Go.Proofs.YtphbieaoedbmpaaDoor.Oct
set_option linter.unusedVariables false
/-- What is not among some blocks is as it was. -/
structure Chg (B : Nat) (S : Nat → Prop) (w w' : World) : Prop where
  os : w'.os = w.os
  tape : w'.tape = w.tape
  output : w'.output = w.output
  size : w.heap.size ≤ w'.heap.size
  block : ∀ q, q < B → ¬ S q → w'.heap[q]? = w.heap[q]?
theorem Chg.refl (B : Nat) (S : Nat → Prop) (w : World) : Chg B S w w := ⟨rfl, rfl, rfl, Nat.le_refl _, fun _ _ _ => rfl⟩
theorem Chg.grown {B : Nat} {S : Nat → Prop} {w w1 w2 : World} {ob : Option Nat} (h : Chg B S w w1) (hB : B ≤ w1.heap.size) (hg : w1.grownBy w2 ob) (ho : ∀ q, ob = some q → q < B → S q) : Chg B S w w2 :=
  ⟨hg.os.trans h.os, hg.tape.trans h.tape, hg.output.trans h.output, Nat.le_trans h.size hg.size, fun q hq hf => (hg.block q (by omega) (fun e => hf (ho q e.symm hq))).trans (h.block q hq hf)⟩
theorem Chg.alloc {B : Nat} {S : Nat → Prop} {w w1 : World} (h : Chg B S w w1) (hB : B ≤ w1.heap.size) (o : Obj) : Chg B S w (w1.alloc o) :=
  h.grown hB (World.grownBy_alloc w1 o none) (fun q e => by cases e)
theorem Chg.drew {B : Nat} {S : Nat → Prop} {w w1 : World} (h : Chg B S w w1) : Chg B S w w1.drew := ⟨h.os, h.tape, h.output, h.size, h.block⟩
theorem Chg.drewN {B : Nat} {S : Nat → Prop} {w w1 : World} (h : Chg B S w w1) (n : Nat) : Chg B S w (w1.drewN n) := ⟨h.os, h.tape, h.output, h.size, h.block⟩
theorem Chg.set {B : Nat} {S : Nat → Prop} {w w1 : World} (h : Chg B S w w1) (q i : Nat) (v : Value) (hS : q < B → S q) : Chg B S w (w1.setCell ⟨q, i, none⟩ v) :=
  ⟨h.os, h.tape, h.output, by have := h.size; show _ ≤ (w1.setCell ⟨q, i, none⟩ v).heap.size; simp; omega, fun k hk hf => (Below.heap_setCell w1 ⟨q, i, none⟩ v k (fun (e : k = q) => hf (by subst e; exact hS hk))).trans (h.block k hk hf)⟩
def ft (rb kb cb : Nat) (nv : Value) (q : Nat) : Prop := q = rb ∨ q = kb ∨ q = cb ∨ nv.ownBlock = some q
theorem infoN : (Tryd.prog.info? 63).map (fun i => (i.zero, i.size, i.bytes)) = some (some (.agg #[.int .i64 0, .int .i64 0, .string ⟨#[]⟩, .string ⟨#[]⟩, .int .i64 0]), 5, 56) := by kernel_rfl
section
variable {H : Type} {P : Program} {w : World} {ops : Array Oper} {o : Oper} {a : Act} {K' : Act → World → Prop} {Q : Exit → Act → World → Prop} {E : Prop}
/-- 'm[k] = v' at a step of a region that draws. -/
theorem step_mapUpdate_own (hgd : o.guard = none) (m x v : Operand) (t : TypeId) (hop : o.op = Op.mapUpdate t m x v)
    (k e : TypeId) (K : Keyed P k) (ht : P.underlying t = some (.map k e)) (R : Value → Option (DataW H × List MemPlace)) (b n : Nat) (D : DataW H)
    (hm : a.eval m = .map (some b)) (hown : w.ownsMap P k R b n D) (hn : n < maxLen) (key val : Value) (kl : Lit) (hx : a.eval x = key) (hv : a.eval v = val) (hkey : keyOf P k key = some kl)
    (d : DataW H) (ps : List MemPlace) (hval : R val = some (d, ps))
    (hK : ∀ w', w'.ownsMap P k R b (n + 1) (D.put kl d) → w.grownBy w' (some b) → K' (a.put o.dst undef) w') :
    if Region.wanted o (yielded ops a.tmps) = true then Oper.wp P o a w K' Q else E := by
  have hw : Region.wanted o (yielded ops a.tmps) = true := by simp [Region.wanted, hgd]
  rw [if_pos hw]
  obtain ⟨w', hrun, r1, r2⟩ := hown.update K ht hn hkey hval
  unfold Oper.wp
  simp [execOp, hop, hm, hx, hv, hrun, Result.andThen]
  exact hK w' r1 r2
/-- 'm[k]' at a step of a region that draws. -/
theorem step_lookup_own (hgd : o.guard = none) (m x : Operand) (t : TypeId) (hop : o.op = Op.lookup t m x false)
    (k e : TypeId) (K : Keyed P k) (ht : P.underlying t = some (.map k e)) (R : Value → Option (DataW H × List MemPlace)) (b n : Nat) (D : DataW H)
    (hm : a.eval m = .map (some b)) (hown : w.ownsMap P k R b n D) (z : Value) (hz : (zeroValue e).run P w = .ok z w) (zd : DataW H) (zp : List MemPlace) (hzd : R z = some (zd, zp)) (key : Value) (kl : Lit) (hx : a.eval x = key) (hkey : keyOf P k key = some kl)
    (hK : ∀ v ps, R v = some (D.atKey kl zd, ps) → K' (a.put o.dst v) w) :
    if Region.wanted o (yielded ops a.tmps) = true then Oper.wp P o a w K' Q else E := by
  have hw : Region.wanted o (yielded ops a.tmps) = true := by simp [Region.wanted, hgd]
  rw [if_pos hw]
  obtain ⟨v, ps, hrun, hv⟩ := hown.lookup K ht hz hzd hkey
  unfold Oper.wp
  simp [execOp, hop, hm, hx, hrun, Result.andThen]
  exact hK v ps hv
end
section
variable {W w5 : World} {rb g : Nat} {ns ms cs : List Nt} {nv v' : Value} {kb cb : Nat} {DK DC : DataW Unit} {x : Nt}
theorem RMX.own (h : RMX W rb g ns ms cs nv kb cb DK DC) : some rb ≠ nv.ownBlock ∧ some kb ≠ nv.ownBlock ∧ some cb ≠ nv.ownBlock := by
  obtain ⟨l1, l2, l3⟩ := h.lt
  refine ⟨fun e => ?_, fun e => ?_, fun e => ?_⟩ <;> (have := (World.ownsRow.lt h.row _ e.symm).1; omega)
/-- A note more. -/
theorem RMX.push (h : RMX W rb g ns ms cs nv kb cb DK DC) (hg : W.grownBy w5 nv.ownBlock) (hown : w5.ownsRow g 63 5 v' (ns.length + 1) (ns.flatMap ntP ++ ntP x)) :
    w5.cell? ⟨rb, 0, none⟩ = some nv ∧ w5.frozen? ⟨rb, 0, none⟩ = false ∧ rb < w5.heap.size ∧ RMX (w5.setCell ⟨rb, 0, none⟩ v') rb g (ns ++ [x]) ms cs v' kb cb DK DC := by
  obtain ⟨o1, o2, o3⟩ := h.own
  obtain ⟨a1, a2⟩ := h.ap
  have hb := h.blk.grown hg o1
  have hk := h.kinds.kept hg o2
  have hc := h.chosen.kept hg o3
  refine ⟨hb.cell rfl, hb.free, hb.lt, ⟨hb.set (i := 0) v', ?_, hk.setCell (a := ⟨rb, 0, none⟩) a1 v', hc.setCell (a := ⟨rb, 0, none⟩) a2 v', h.kat, h.cat, h.chas, h.ne, h.lt, h.ap⟩⟩
  unfold OwnN
  rw [List.length_append, List.flatMap_append]
  have e2 : ([x] : List Nt).flatMap ntP = ntP x := by simp
  rw [e2]
  exact ownsRow_setCell_below hown (a := ⟨rb, 0, none⟩) h.lt.1 v'
/-- It is counted by its kind. -/
theorem RMX.tick (h : RMX W rb g ns ms cs nv kb cb DK DC) (hg : W.grownBy w5 (some kb)) (hk : (Lit.int .i64 x.kind).wf = true)
    (hown : w5.ownsMap Tryd.prog 3 talE kb (ms.length + 1) (DK.put (.int .i64 x.kind) (.agg [.lit (.int .i64 (cntN x.kind ms + 1)), .lit (.int .i64 (bytN x.kind ms + x.text.length))]))) :
    RMX w5 rb g ns (ms ++ [x]) cs nv kb cb (DK.put (.int .i64 x.kind) (.agg [.lit (.int .i64 (cntN x.kind ms + 1)), .lit (.int .i64 (bytN x.kind ms + x.text.length))])) DC := by
  have hne : some rb ≠ some kb := fun e => h.ap.1 (Option.some.inj e).symm
  refine ⟨h.blk.grown hg hne, World.ownsRow.kept h.row hg ?_, by rw [List.length_append]; exact hown, h.chosen.kept hg (fun e => h.ne (Option.some.inj e).symm), ?_, h.cat, h.chas, h.ne, h.lt, h.ap⟩
  · exact .inr (fun e => h.own.2.1 e.symm)
  · intro k hkw
    rw [cnt_app, byt_app]
    by_cases e : x.kind = k
    · subst e
      rw [Maps.atKey_put_same h.kinds.isMap (by trivial), if_pos rfl, if_pos rfl]
      push_cast
      rfl
    · rw [Maps.atKey_put_other (fun e2 => e (by injection e2 with _ e3; exact e3.symm)), if_neg e, if_neg e]
      exact h.kat k hkw
theorem RMX.skip (h : RMX W rb g ns ms cs nv kb cb DK DC) (hk : x.kind ≠ 10) : RMX W rb g ns ms (cs ++ [x]) nv kb cb DK DC := by
  have e : ∀ n, choN n (cs ++ [x]) = choN n cs := fun n => by rw [cho_app, if_neg (fun e => hk e.1)]; rfl
  refine ⟨h.blk, h.row, h.kinds, h.chosen.mono (by simp), h.kat, fun n => by rw [e]; exact h.cat n, fun n => by rw [e]; exact h.chas n, h.ne, h.lt, h.ap⟩
/-- It is counted by its name. -/
theorem RMX.name (h : RMX W rb g ns ms cs nv kb cb DK DC) (hg : W.grownBy w5 (some cb)) (hk : x.kind = 10)
    (hown : w5.ownsMap Tryd.prog 9 chE cb (cs.length + 1) (DC.put (.string x.name) (.lit (.int .i64 (choN x.name cs + 1))))) :
    RMX w5 rb g ns ms (cs ++ [x]) nv kb cb DK (DC.put (.string x.name) (.lit (.int .i64 (choN x.name cs + 1)))) := by
  have hne : some rb ≠ some cb := fun e => h.ap.2 (Option.some.inj e).symm
  refine ⟨h.blk.grown hg hne, World.ownsRow.kept h.row hg ?_, h.kinds.kept hg (fun e => h.ne (Option.some.inj e)), by rw [List.length_append]; exact hown, h.kat, ?_, ?_, h.ne, h.lt, h.ap⟩
  · exact .inr (fun e => h.own.2.2 e.symm)
  · intro n
    rw [cho_app]
    by_cases e : x.name = n
    · subst e
      rw [Maps.atKey_put_same h.chosen.isMap (by trivial), if_pos ⟨hk, rfl⟩]
      push_cast
      rfl
    · rw [Maps.atKey_put_other (fun e2 => e (by injection e2 with e3; exact e3.symm)), if_neg (fun e3 => e e3.2)]
      exact h.cat n
  · intro n
    rw [cho_app]
    by_cases e : x.name = n
    · subst e
      rw [Maps.has_put_same h.chosen.isMap (by trivial), if_pos ⟨hk, rfl⟩]
      simp
    · rw [Maps.has_put_other (fun e2 => e (by injection e2 with e3; exact e3.symm)), if_neg (fun e3 => e e3.2)]
      exact h.chas n
end
set_option maxRecDepth 100000 in
set_option maxHeartbeats 2000000 in
theorem note_any {w : World} {rb g : Nat} {ns : List Nt} {nv : Value} {kb cb : Nat} {DK DC : DataW Unit} (h : RM w rb g ns nv kb cb DK DC) (x : Nt) (q o c : Nat) (he : ∀ k u, (ntE x)[k]? = some u → w.cell? ⟨q, o + k, none⟩ = some u) (hq : q < w.heap.size) (hgw : g ≤ w.heap.size)
    (hN : ns.length ≤ 1000) (hT : x.text.length ≤ 1000) (hT2 : ∀ y ∈ ns, y.text.length ≤ 1000) (hn : x.name.length ≤ 1000) (hk : (Lit.int .i64 x.kind).wf = true) :
    Calls Tryd.prog 20 #[.pointer (some ⟨rb, 0, none⟩), .int .i64 x.now, .slice (some ⟨q, o, none⟩) 1 c] w fun e w' => e = .returned (.tuple #[]) ∧
      ∃ nv' DK' DC', RM w' rb g (ns ++ [x]) nv' kb cb DK' DC' ∧ (nv'.ownBlock = nv.ownBlock ∨ ∃ j, nv'.ownBlock = some j ∧ w.heap.size ≤ j) ∧ Chg w.heap.size (ft rb kb cb nv) w w' := by
  obtain ⟨i0, hi, hz0, hz1, hz2⟩ := info_parts infoN
  have e0 := he 0 _ rfl
  have e1 := he 1 _ rfl
  have e2 := he 2 _ rfl
  have e3 := he 3 _ rfl
  rw [Nat.add_zero] at e0
  clear he
  obtain ⟨now, kd, cn, nm, tx⟩ := x
  simp only at e0 e1 e2 e3 hT hn hk
  have z1 := cnt_le kd ns
  have z2 := byt_le kd 1000 ns hT2
  have z3 : ((mk tx).size : Int) = tx.length := by rw [mk_size]
  go_enter Tryd.func20, Tryd.ntmps20
  go_wp2
  go_loopw [11] (fun i wr => ∃ k : Nat, i = .int .i64 k ∧ ((k = 0 ∧ wr = w) ∨ (k = 1 ∧ ∃ nv' DK' DC', RM wr rb g (ns ++ [⟨now, kd, cn, nm, tx⟩]) nv' kb cb DK' DC' ∧ (nv'.ownBlock = nv.ownBlock ∨ ∃ j, nv'.ownBlock = some j ∧ w.heap.size ≤ j) ∧ Chg w.heap.size (ft rb kb cb nv) w wr))) (fun i _ => 1 - (intOf i).toNat)
  case atStart => exact ⟨0, rfl, .inl ⟨rfl, rfl⟩⟩
  case round =>
    obtain ⟨k, rfl, ⟨rfl, rfl⟩ | ⟨rfl, hP⟩⟩ := hrel
    · have c0 : wr.cell? ⟨rb, 0, none⟩ = some nv := h.blk.cell rfl
      obtain ⟨A9, c9, rfl⟩ := row_slice h.row
      have f0 : wr.frozen? ⟨rb, 0, none⟩ = false := h.blk.free
      go_wp2
      have hl := h.lt
      have h1 := RMX.below h ((Below.refl _ _).alloc (Nat.le_refl _) (.cells #[.int .i64 kd, .int .i64 cn, .string (mk nm), .string (mk tx)] 46))
      have hC1 := (Chg.refl wr.heap.size (ft rb kb cb (.slice A9 ns.length c9)) wr).alloc (Nat.le_refl _) (.cells #[.int .i64 kd, .int .i64 cn, .string (mk nm), .string (mk tx)] 46)
      have hq1 := heap_alloc_new wr (.cells #[.int .i64 kd, .int .i64 cn, .string (mk nm), .string (mk tx)] 46)
      have hz1' : wr.heap.size < (wr.alloc (.cells #[.int .i64 kd, .int .i64 cn, .string (mk nm), .string (mk tx)] 46)).heap.size := by simp
      generalize wr.alloc (.cells #[.int .i64 kd, .int .i64 cn, .string (mk nm), .string (mk tx)] 46) = w1 at *
      have c10 : w1.cell? ⟨rb, 0, none⟩ = some (.slice A9 ns.length c9) := h1.blk.cell rfl
      have f10 : w1.frozen? ⟨rb, 0, none⟩ = false := h1.blk.free
      have q10 : w1.cell? ⟨wr.heap.size, 0, none⟩ = some (.int .i64 kd) := (cell_of_row _ _ 0 _ _ _ hq1).trans rfl
      have q11 : w1.cell? ⟨wr.heap.size, 1, none⟩ = some (.int .i64 cn) := (cell_of_row _ _ 1 _ _ _ hq1).trans rfl
      have q12 : w1.cell? ⟨wr.heap.size, 2, none⟩ = some (.string (mk nm)) := (cell_of_row _ _ 2 _ _ _ hq1).trans rfl
      have q13 : w1.cell? ⟨wr.heap.size, 3, none⟩ = some (.string (mk tx)) := (cell_of_row _ _ 3 _ _ _ hq1).trans rfl
      have hown1 : w1.ownsRow g 63 5 (.slice A9 ns.length c9) ns.length (ns.flatMap ntP) := h1.row
      have hh1 := Lib.hid h1
      have hhq1 := Lib.hid hq1
      have hgl : g ≤ w1.heap.size := by omega
      have hown0 : ∀ j, (Value.slice A9 ns.length c9).ownBlock = some j → g ≤ j ∧ j < wr.heap.size := fun j e => World.ownsRow.lt h.row j e
      have hne1 : some wr.heap.size ≠ (Value.slice A9 ns.length c9).ownBlock := fun e => by have := (hown0 _ e.symm).2; omega
      have hrbq : rb < wr.heap.size := h.blk.lt
      have hkbq : kb < wr.heap.size := h.kinds.lt
      have hcbq : cb < wr.heap.size := h.chosen.lt
      have hC2 := Lib.hid ((hC1.alloc (Nat.le_of_lt hz1') (.cells #[.int .i64 kd, .int .i64 cn, .string (mk nm), .string (mk tx), .int .i64 now] 63)).drew)
      have hh2 := Lib.hid (RMX.drew (RMX.below h1 ((Below.refl _ _).alloc (Nat.le_refl _) (.cells #[.int .i64 kd, .int .i64 cn, .string (mk nm), .string (mk tx), .int .i64 now] 63))))
      have c102 := oldA c10 h1.blk.lt (.cells #[.int .i64 kd, .int .i64 cn, .string (mk nm), .string (mk tx), .int .i64 now] 63)
      clear h1 hq1
      go_cut [] (fun wx => ∃ g5 c5, RMX wx rb g (ns ++ [⟨now, kd, cn, nm, tx⟩]) ns ns (.slice (some ⟨g5, 0, none⟩) (ns.length + 1) c5) kb cb DK DC ∧ wx.heap[wr.heap.size]? = some (.cells #[.int .i64 kd, .int .i64 cn, .string (mk nm), .string (mk tx)] 46 (0, 0)) ∧ Chg wr.heap.size (ft rb kb cb (.slice A9 ns.length c9)) wr wx ∧
        ((Value.slice (some ⟨g5, 0, none⟩) (ns.length + 1) c5).ownBlock = (Value.slice A9 ns.length c9).ownBlock ∨ ∃ j, (Value.slice (some ⟨g5, 0, none⟩) (ns.length + 1) c5).ownBlock = some j ∧ wr.heap.size ≤ j))
      case first =>
        go_region_law ((refine step_append_lies _ (by rfl) _ _ _ (by rfl) g 63 i0 _ 5 56 Tryd.underlying52 hi hz0 hz1 hz2 rfl (by omega) (.slice A9 ns.length c9) ns.length _ (by rfl) ((hown1.alloc _).drew) ⟨w1.heap.size, 0, none⟩ 1 1 [.int .i64 kd, .int .i64 cn, .string (mk nm), .string (mk tx), .int .i64 now] (by rfl) (by rfl) (World.news_of_block (cs := #[.int .i64 kd, .int .i64 cn, .string (mk nm), .string (mk tx), .int .i64 now]) (t := 63) (fr := (0, 0)) (heap_alloc_new w1 _)) (by simp [Value.oneCell']) (by omega) (by unfold maxLen; omega) (by omega) (by simp; omega) (w1.heap.size + 1) (by simp) ?_; intro g5 c5 w5 hown5 hgrow5 hat5 hlt5; obtain ⟨c50, f50, l50, h5⟩ := RMX.push (x := ⟨now, kd, cn, nm, tx⟩) hh2.out hgrow5 hown5; have hh5 := Lib.hid h5; have hhq6 := Lib.hid ((Below.heap_setCell w5 ⟨rb, 0, none⟩ (.slice (some ⟨g5, 0, none⟩) (ns.length + 1) c5) wr.heap.size (show wr.heap.size ≠ rb by omega)).trans ((hgrow5.block wr.heap.size (by simp; omega) hne1).trans ((Below.heap_alloc w1 (.cells #[.int .i64 kd, .int .i64 cn, .string (mk nm), .string (mk tx), .int .i64 now] 63) _ hz1').trans hhq1.out))); have hC6 := Lib.hid ((hC2.out.grown (by simp; omega) hgrow5 (fun j e _ => .inr (.inr (.inr e)))).set rb 0 (.slice (some ⟨g5, 0, none⟩) (ns.length + 1) c5) (fun _ => .inl rfl)); clear h5))
        all_goals
          go_wp2
          go_meet
          refine ⟨g5, c5, hh5.out, hhq6.out, hC6.out, ?_⟩
          rcases hat5 with e | e
          · exact .inl e.symm
          · exact .inr ⟨g5, rfl, by omega⟩
      case rest =>
        obtain ⟨g5, c5, h6, hq6, hC6, hob⟩ := hcut
        clear hh1 hhq1 hh2 hC1 hC2 c10 f10 q10 q11 q12 q13 hown1 c102 h e0 e1 e2 e3 c0 f0
        have hz6 : wr.heap.size < wc.heap.size := (Array.getElem?_eq_some_iff.1 hq6).1
        have c61 : wc.cell? ⟨rb, 1, none⟩ = some (.map (some kb)) := h6.blk.cell rfl
        have q60 : wc.cell? ⟨wr.heap.size, 0, none⟩ = some (.int .i64 kd) := (cell_of_row _ _ 0 _ _ _ hq6).trans rfl
        have h7 := RMX.below h6 ((Below.refl _ _).alloc (Nat.le_refl _) (.cells #[.int .i64 0, .int .i64 0] 51))
        have hq7 := (Below.heap_alloc wc (.cells #[.int .i64 0, .int .i64 0] 51) _ hz6).trans hq6
        have c71 : (wc.alloc (.cells #[.int .i64 0, .int .i64 0] 51)).cell? ⟨rb, 1, none⟩ = some (.map (some kb)) := h7.blk.cell rfl
        have q70 : (wc.alloc (.cells #[.int .i64 0, .int .i64 0] 51)).cell? ⟨wr.heap.size, 0, none⟩ = some (.int .i64 kd) := (cell_of_row _ _ 0 _ _ _ hq7).trans rfl
        have hkat := h6.kat kd hk
        obtain ⟨tv, ps, hrunL, hR⟩ := World.ownsMap.lookup h7.kinds.drew lawI Tryd.underlying53 (zeroTal _) (talE_mk 0 0) (keyOf_int_mk Tryd.underlying3 hk)
        obtain ⟨tv6, ps6, hrunL6, hR6⟩ := World.ownsMap.lookup h6.kinds.drew lawI Tryd.underlying53 (zeroTal _) (talE_mk 0 0) (keyOf_int_mk Tryd.underlying3 hk)
        unfold tal0 at hkat
        rw [hkat] at hR hR6
        obtain rfl := talE_inv hR
        obtain rfl := talE_inv hR6
        have hh6 := Lib.hid h6
        have hhq6 := Lib.hid hq6
        clear hR hkat hR6 h7 hq7 h6 hq6
        go_wp2
        go_cut [8] (fun v8 wx => ∃ t8, v8 = .pointer (some ⟨t8, 0, none⟩) ∧ Blk wx t8 #[.int .i64 (cntN kd ns : Int), .int .i64 (bytN kd ns : Int)] 51 ∧ RMX wx rb g (ns ++ [⟨now, kd, cn, nm, tx⟩]) ns ns (.slice (some ⟨g5, 0, none⟩) (ns.length + 1) c5) kb cb DK DC ∧ wx.heap[wr.heap.size]? = some (.cells #[.int .i64 kd, .int .i64 cn, .string (mk nm), .string (mk tx)] 46 (0, 0)) ∧ Chg wr.heap.size (ft rb kb cb (.slice A9 ns.length c9)) wr wx)
        case first =>
          go_region
          all_goals
            go_wp2
            go_meet
            exact ⟨_, rfl, Blk.new wc _ _, RMX.drew (RMX.below hh6.out ((Below.refl _ _).alloc (Nat.le_refl _) (.cells #[.int .i64 (cntN kd ns : Int), .int .i64 (bytN kd ns : Int)] 51))), (Below.heap_alloc wc (.cells #[.int .i64 (cntN kd ns : Int), .int .i64 (bytN kd ns : Int)] 51) _ hz6).trans hhq6.out, (hC6.alloc (Nat.le_of_lt hz6) (.cells #[.int .i64 (cntN kd ns : Int), .int .i64 (bytN kd ns : Int)] 51)).drew⟩
        case rest =>
          obtain ⟨t8, rfl, ht8, h8, hq8, hC8⟩ := hcut
          clear hrunL hrunL6 hh6 hhq6 hC6 c61 q60 c71 q70 hz6
          have c81 : wc.cell? ⟨rb, 1, none⟩ = some (.map (some kb)) := h8.blk.cell rfl
          have q80 : wc.cell? ⟨wr.heap.size, 0, none⟩ = some (.int .i64 kd) := (cell_of_row _ _ 0 _ _ _ hq8).trans rfl
          have q83 : wc.cell? ⟨wr.heap.size, 3, none⟩ = some (.string (mk tx)) := (cell_of_row _ _ 3 _ _ _ hq8).trans rfl
          have t80 : wc.cell? ⟨t8, 0, none⟩ = some (.int .i64 (cntN kd ns : Int)) := ht8.cell rfl
          have t81 : wc.cell? ⟨t8, 1, none⟩ = some (.int .i64 (bytN kd ns : Int)) := ht8.cell rfl
          have hz8 : wr.heap.size < wc.heap.size := (Array.getElem?_eq_some_iff.1 hq8).1
          obtain ⟨w9, hrunU, hown9, hgrow9⟩ := World.ownsMap.update h8.kinds.drew lawI Tryd.underlying53 (by unfold maxLen; omega) (keyOf_int_mk Tryd.underlying3 hk) (talE_mk ((cntN kd ns : Int) + 1) ((bytN kd ns : Int) + (tx.length : Int)))
          have h9 := Lib.hid (RMX.tick (x := ⟨now, kd, cn, nm, tx⟩) h8.drew hgrow9 hk hown9)
          have hC9 := Lib.hid (hC8.drew.grown hC8.size hgrow9 (fun j e _ => .inr (.inl (Option.some.inj e).symm)))
          have hq9 := Lib.hid ((hgrow9.block wr.heap.size (show wr.heap.size < wc.heap.size from hz8) (fun e => by have := Option.some.inj e; omega)).trans hq8)
          clear h8 hq8 ht8 hC8 hown9 hgrow9
          go_wp2
          go_cut [] (fun wx => ∃ DK', RMX wx rb g (ns ++ [⟨now, kd, cn, nm, tx⟩]) (ns ++ [⟨now, kd, cn, nm, tx⟩]) ns (.slice (some ⟨g5, 0, none⟩) (ns.length + 1) c5) kb cb DK' DC ∧ wx.heap[wr.heap.size]? = some (.cells #[.int .i64 kd, .int .i64 cn, .string (mk nm), .string (mk tx)] 46 (0, 0)) ∧ Chg wr.heap.size (ft rb kb cb (.slice A9 ns.length c9)) wr wx)
          case first =>
            go_region
            all_goals
              go_wp2
              go_meet
              exact ⟨_, h9.out, hq9.out, hC9.out⟩
          case rest =>
            clear h9 hq9 hC9 hrunU c81 q80 q83 t80 t81 hz8
            obtain ⟨DK', h9, hq9, hC9⟩ := hcut
            have q90 : wc.cell? ⟨wr.heap.size, 0, none⟩ = some (.int .i64 kd) := (cell_of_row _ _ 0 _ _ _ hq9).trans rfl
            have q92 : wc.cell? ⟨wr.heap.size, 2, none⟩ = some (.string (mk nm)) := (cell_of_row _ _ 2 _ _ _ hq9).trans rfl
            have c92 : wc.cell? ⟨rb, 2, none⟩ = some (.map (some cb)) := h9.blk.cell rfl
            have hz9 : wr.heap.size ≤ wc.heap.size := hC9.size
            by_cases hk10 : kd = 10
            · subst hk10
              have hkey : keyOf Tryd.prog 9 (.string (mk nm)) = some (.string nm) := Go.WideMaps.keyOf_string_mk Tryd.underlying9 (by rw [mk_size]; unfold maxLen; omega)
              obtain ⟨cv, hrunC, hat, _⟩ := World.ownsMap.lookup_int h9.chosen.drew lawS Tryd.underlying54 Tryd.underlying3 (zeroInt _) hkey
              rw [show (DataW.lit (.int .i64 0) : DataW Unit) = int0 from rfl, h9.cat nm] at hat
              have hcv : cv = choN nm ns := by simpa using hat.symm
              subst hcv
              have z4 := cho_le nm ns
              obtain ⟨w10, hrunV, hown10, hgrow10⟩ := World.ownsMap.update h9.chosen.drew lawS Tryd.underlying54 (by unfold maxLen; omega) hkey (plainElem_int (H := Unit) (a := (choN nm ns : Int) + 1) Tryd.underlying3 (WalkArith.wf_i64 (by omega)))
              have h10 := Lib.hid (RMX.name (x := ⟨now, 10, cn, nm, tx⟩) h9.drew hgrow10 rfl hown10)
              have hC10 := Lib.hid (hC9.drew.grown hz9 hgrow10 (fun j e _ => .inr (.inr (.inl (Option.some.inj e).symm))))
              clear hat hown10 hgrow10 h9 hC9 hq9
              go_wp2
              go_region
              all_goals
                go_wp2
                go_roundw
                case rel => exact ⟨1, by go_num, .inr ⟨rfl, _, _, _, h10.out, hob, hC10.out⟩⟩
                case measure => simp [intOf]
            · have h10 := Lib.hid (RMX.skip (x := ⟨now, kd, cn, nm, tx⟩) h9 hk10)
              have hC10 := Lib.hid hC9
              clear h9 hq9 hC9
              go_wp2
              go_roundw
              case rel => exact ⟨1, by go_num, .inr ⟨rfl, _, _, _, h10.out, hob, hC10.out⟩⟩
              case measure => simp [intOf]
    · go_wp2
      refine bodyPost_end (v := .tuple #[]) (results_none rfl _ _ _) rfl ⟨rfl, hP⟩
end Go.Proofs.YtphbieaoedbmpaaDoor.Rp
