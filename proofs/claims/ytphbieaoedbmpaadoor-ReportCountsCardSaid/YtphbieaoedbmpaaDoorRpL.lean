/- noted: the program's report beside the document's notes. -/
import Derived.Test.YtphbieaoedbmpaaDoorRpK
namespace Go.Proofs.YtphbieaoedbmpaaDoor.Rp
open Go.RowKit Go.Maps Go.Sort Go.Shelf Go.Proofs.YtphbieaoedbmpaaDoor.Oct
set_option linter.unusedVariables false
/-- Rows of different kinds lie apart. -/
theorem own_apart {w : World} {b1 b2 s1 s2 n1 n2 : Nat} {e1 e2 : TypeId} {v1 v2 : Value} {x1 x2 : List Value} (h1 : w.ownsRow b1 e1 s1 v1 n1 x1) (h2 : w.ownsRow b2 e2 s2 v2 n2 x2) (hne : e1 ≠ e2) {q : Nat} (hq : v1.ownBlock = some q) : v2.ownBlock ≠ some q := by
  intro hq2
  rcases h1.2 with ⟨rfl, _⟩ | ⟨g, cap, cur, rfl, _, hg, _⟩
  · cases hq
  · rcases h2.2 with ⟨rfl, _⟩ | ⟨g', cap', cur', rfl, _, hg', _⟩
    · cases hq2
    · have a1 : g = q := by simpa [Value.ownBlock] using hq
      have a2 : g' = q := by simpa [Value.ownBlock] using hq2
      subst a1
      subst a2
      rw [hg] at hg'
      exact hne (Obj.cells.inj (Option.some.inj hg')).2.1
theorem ownsRow_chg {w w' : World} {base size n : Nat} {e : TypeId} {v : Value} {xs : List Value} (h : w.ownsRow base e size v n xs) {S : Nat → Prop} (hC : Chg w.heap.size S w w') (hS : ∀ q, v.ownBlock = some q → ¬ S q) : w'.ownsRow base e size v n xs := by
  obtain ⟨h1, h2⟩ := h
  refine ⟨h1, h2.imp id ?_⟩
  rintro ⟨g, cap, cur, rfl, hb, hg, rest⟩
  exact ⟨g, cap, cur, rfl, hb, (hC.block g (Array.getElem?_eq_some_iff.1 hg).1 (hS g rfl)).trans hg, rest⟩
theorem RMX.kept {W w5 : World} {rb g : Nat} {ns ms cs : List Nt} {nv : Value} {kb cb : Nat} {DK DC : DataW Unit} (h : RMX W rb g ns ms cs nv kb cb DK DC) {row : Option Nat} (hg : W.grownBy w5 row) (h1 : some rb ≠ row) (h2 : some kb ≠ row) (h3 : some cb ≠ row) (h4 : nv.ownBlock = none ∨ nv.ownBlock ≠ row) : RMX w5 rb g ns ms cs nv kb cb DK DC :=
  ⟨h.blk.grown hg h1, World.ownsRow.kept h.row hg h4, h.kinds.kept hg h2, h.chosen.kept hg h3, h.kat, h.cat, h.chas, h.ne, h.lt, h.ap⟩
theorem Below.chg {g : Nat} {w W W' : World} {S : Nat → Prop} {B : Nat} (h : Below g w W) (hC : Chg B S W W') (hB : g ≤ B) (hS : ∀ q, S q → g ≤ q) : Below g w W' :=
  ⟨hC.os.trans h.os, hC.tape.trans h.tape, hC.output.trans h.output, Nat.le_trans h.size hC.size, fun q hq => (hC.block q (by omega) (fun e => by have := hS q e; omega)).trans (h.block q hq)⟩
/-- A note, cut. -/
def cutNt (x : Nt) : Nt := { x with name := x.name.take 12, text := x.text.take 30 }
theorem cut12 (s : List UInt8) (w : World) : Calls Tryd.prog 6 #[.string (mk s), .int .i64 12] w fun e w' => e = .returned (.string (mk (s.take 12))) ∧ w' = w := (cut_any (mk s) 12 w).mono fun _ _ ⟨a, b⟩ => ⟨a, b.symm⟩
theorem cut30 (s : List UInt8) (w : World) : Calls Tryd.prog 6 #[.string (mk s), .int .i64 30] w fun e w' => e = .returned (.string (mk (s.take 30))) ∧ w' = w := (cut_any (mk s) 30 w).mono fun _ _ ⟨a, b⟩ => ⟨a, b.symm⟩
theorem infoR : (Tryd.prog.info? 42).map (fun i => (i.zero, i.size, i.bytes)) = some (some (.agg #[.int .i64 0, .int .i64 0, .int .i64 0, .string ⟨#[]⟩, .string ⟨#[]⟩]), 5, 56) := by kernel_rfl
/-- What noted keeps. -/
structure NM (g g0 : Nat) (w wr : World) (rb : Nat) (ys : List Nt) (ov : Value) (nv : Value) (kb cb : Nat) (DK DC : DataW Unit) : Prop where
  rm : RM wr rb g0 ys nv kb cb DK DC
  out : OwnN 42 ntR wr g0 ov ys
  bel : Below g w wr
  lo : g ≤ rb ∧ g ≤ kb ∧ g ≤ cb ∧ g ≤ g0 ∧ g0 ≤ wr.heap.size
set_option maxRecDepth 100000 in
set_option maxHeartbeats 2000000 in
theorem noted_any (xs : List Nt) (v : Value) (w : World) (hv : Nts ntR w v xs) (hN : xs.length ≤ 140737488355328) (hK : ∀ x ∈ xs, (Lit.int .i64 x.kind).wf = true) :
    Calls Tryd.prog 5 #[v] w fun e w' => ∃ rb g0 ov nv kb cb DK DC, e = .returned (.tuple #[.pointer (some ⟨rb, 0, none⟩), ov]) ∧ NM w.heap.size g0 w w' rb ((xs.take 30).map cutNt) ov nv kb cb DK DC := by
  obtain ⟨i0, hi, hz0, hz1, hz2⟩ := info_parts infoR
  obtain ⟨A, c, rfl, hc, hr⟩ := hv
  go_enter Tryd.func5, Tryd.ntmps5
  go_wp2_with (go_at_call 19; refine (new_any _).mono ?_; rintro e w1 ⟨rb, kb, cb, rfl, h1, h2, h3, hM, hb⟩)
  generalize hg : w.heap.size = g at *
  go_loopw [5, 6] (fun ov i wr => ∃ (k : Nat) (ov0 nv : Value) (DK DC : DataW Unit), ov0 = ov ∧ k ≤ xs.length ∧ k ≤ 30 ∧ i = .int .i64 k ∧ NM g w1.heap.size w wr rb ((xs.take k).map cutNt) ov nv kb cb DK DC) (fun _ i _ => 30 - (intOf i).toNat)
  case atStart => exact ⟨0, _, _, _, _, rfl, Nat.zero_le _, Nat.zero_le _, rfl, ⟨hM, World.ownsRow_nil _ _ _ _, hb, h1, h2, h3, by have := hb.size; omega, Nat.le_refl _⟩⟩
  case round =>
    obtain ⟨k, ov, nv, DK, DC, rfl, hk, hk3, rfl, hn⟩ := hrel
    by_cases c1 : k < xs.length ∧ k < 30
    · obtain ⟨c1, c2⟩ := c1
      obtain ⟨b, o, rfl, hlt, hx⟩ := hr (by omega)
      have hx0 := hx k xs[k] (by simp [c1])
      have hc0 := (hn.bel.cell (p := ⟨b, o + k * 5, none⟩) (by omega)).trans (hx0 0 _ rfl)
      have hc1 := (hn.bel.cell (p := ⟨b, o + k * 5 + 1, none⟩) (by omega)).trans (hx0 1 _ rfl)
      have hc2 := (hn.bel.cell (p := ⟨b, o + k * 5 + 2, none⟩) (by omega)).trans (hx0 2 _ rfl)
      have hc3 := (hn.bel.cell (p := ⟨b, o + k * 5 + 3, none⟩) (by omega)).trans (hx0 3 _ rfl)
      have hc4 := (hn.bel.cell (p := ⟨b, o + k * 5 + 4, none⟩) (by omega)).trans (hx0 4 _ rfl)
      have htk := Lib.hid (show (xs.take (k + 1)).map cutNt = (xs.take k).map cutNt ++ [cutNt xs[k]] by rw [List.take_succ_eq_append_getElem c1, List.map_append]; rfl)
      have hkl : ((xs.take k).map cutNt).length = k := by rw [List.length_map, List.length_take]; omega
      have hwf := hK xs[k] (by simp)
      have hT2 : ∀ y ∈ (xs.take k).map cutNt, y.text.length ≤ 1000 := fun y hy => by
        obtain ⟨z, _, rfl⟩ := List.mem_map.1 hy
        show (z.text.take 30).length ≤ 1000
        rw [List.length_take]; omega
      generalize (xs.take k).map cutNt = ys at *
      generalize xs[k] = x at *
      obtain ⟨now, kd, cn, nm, tx⟩ := x
      simp only at hc0 hc1 hc2 hc3 hc4 hwf
      clear hx0 hx
      have hh := Lib.hid hn
      clear hn
      go_upto_region 9 with fail
      have hb1 : Blk (wr.alloc (.cells #[.int .i64 now, .int .i64 kd, .int .i64 cn, .string (mk nm), .string (mk tx)] 42)) wr.heap.size #[.int .i64 now, .int .i64 kd, .int .i64 cn, .string (mk nm), .string (mk tx)] 42 := Blk.new _ _ _
      have hB1 := (Below.refl wr.heap.size wr).alloc (Nat.le_refl _) (.cells #[.int .i64 now, .int .i64 kd, .int .i64 cn, .string (mk nm), .string (mk tx)] 42)
      generalize wr.alloc (.cells #[.int .i64 now, .int .i64 kd, .int .i64 cn, .string (mk nm), .string (mk tx)] 42) = w2 at *
      have q3 : w2.cell? ⟨wr.heap.size, 3, none⟩ = some (.string (mk nm)) := hb1.cell rfl
      have q4 : w2.cell? ⟨wr.heap.size, 4, none⟩ = some (.string (mk tx)) := hb1.cell rfl
      have f3 : w2.frozen? ⟨wr.heap.size, 3, none⟩ = false := hb1.free
      have f4 : w2.frozen? ⟨wr.heap.size, 4, none⟩ = false := hb1.free
      have hb2 := Blk.set (i := 3) (show Blk w2.drew wr.heap.size #[.int .i64 now, .int .i64 kd, .int .i64 cn, .string (mk nm), .string (mk tx)] 42 from hb1) (.string (mk (nm.take 12)))
      have q42 : (w2.drew.setCell ⟨wr.heap.size, 3, none⟩ (.string (mk (nm.take 12)))).cell? ⟨wr.heap.size, 4, none⟩ = some (.string (mk tx)) := hb2.cell rfl
      have f42 : (w2.drew.setCell ⟨wr.heap.size, 3, none⟩ (.string (mk (nm.take 12)))).frozen? ⟨wr.heap.size, 4, none⟩ = false := hb2.free
      have hb3 := Lib.hid (Blk.set (i := 4) hb2 (.string (mk (tx.take 30))))
      have hB3 := Lib.hid (Below.setCell (p := ⟨wr.heap.size, 4, none⟩) (Below.setCell (p := ⟨wr.heap.size, 3, none⟩) hB1.drew (Nat.le_refl _) (.string (mk (nm.take 12)))) (Nat.le_refl _) (.string (mk (tx.take 30))))
      have d12 := Lib.hid (fun W => cut12 nm W)
      have d30 := Lib.hid (fun W => cut30 tx W)
      clear hb1 hb2 hB1
      go_cut [] (fun wx => Blk wx wr.heap.size #[.int .i64 now, .int .i64 kd, .int .i64 cn, .string (mk (nm.take 12)), .string (mk (tx.take 30))] 42 ∧ Below wr.heap.size wr wx)
      case first =>
        go_region_with (first
          | (go_at_call 6; (with_reducible refine (d12.out _).mono ?_); rintro e w9 ⟨rfl, rfl⟩)
          | (go_at_call 6; (with_reducible refine (d30.out _).mono ?_); rintro e w9 ⟨rfl, rfl⟩))
        all_goals
          go_wp2
          go_meet
          exact ⟨hb3.out, hB3.out⟩
      case rest =>
        obtain ⟨hb4, hB4⟩ := hcut
        clear q3 q4 f3 f4 q42 f42 hb3 hB3 d12 d30 hc0 hc1 hc2 hc3 hc4
        have hR4 := RMX.below hh.out.rm hB4
        have hO4 : wc.ownsRow w1.heap.size 42 5 ov ys.length (ys.flatMap ntR) := World.ownsRow.kept hh.out.out (below_grown hB4) (by cases ov.ownBlock <;> simp)
        obtain ⟨l1, l2, l3, l4, l5⟩ := hh.out.lo
        have hz4 := hB4.size
        have bel4 := hh.out.bel.trans (hB4.mono (by omega))
        have hq4 := hb4.lt
        have hnvq : ∀ j, nv.ownBlock = some j → w1.heap.size ≤ j ∧ j < wr.heap.size := fun j e => World.ownsRow.lt hh.out.rm.row j e
        have hovq : ∀ j, ov.ownBlock = some j → w1.heap.size ≤ j ∧ j < wr.heap.size := fun j e => World.ownsRow.lt hh.out.out j e
        have hR5 := RMX.below hR4 ((Below.refl _ _).alloc (Nat.le_refl _) (.cells #[.int .i64 kd, .int .i64 cn, .string (mk (nm.take 12)), .string (mk (tx.take 30))] 46))
        have hO5 := hO4.alloc (.cells #[.int .i64 kd, .int .i64 cn, .string (mk (nm.take 12)), .string (mk (tx.take 30))] 46)
        have hb5 := hb4.alloc (.cells #[.int .i64 kd, .int .i64 cn, .string (mk (nm.take 12)), .string (mk (tx.take 30))] 46)
        have bel5 := bel4.alloc (show g ≤ wc.heap.size by omega) (.cells #[.int .i64 kd, .int .i64 cn, .string (mk (nm.take 12)), .string (mk (tx.take 30))] 46)
        have hz5 : (wc.alloc (.cells #[.int .i64 kd, .int .i64 cn, .string (mk (nm.take 12)), .string (mk (tx.take 30))] 46)).heap.size = wc.heap.size + 1 := by simp
        have dN := Lib.hid (note_any hR5 ⟨now, kd, cn, nm.take 12, tx.take 30⟩ wc.heap.size 0 1 (fun k u hu => by
          rw [Nat.zero_add]
          exact (cell_of_row _ _ k _ _ _ (heap_alloc_new wc _)).trans (by simpa [ntE] using hu)) (by simp) (by omega) (by omega) (by show (tx.take 30).length ≤ 1000; rw [List.length_take]; omega) hT2 (by show (nm.take 12).length ≤ 1000; rw [List.length_take]; omega) hwf)
        have hap := fun q => own_apart (q := q) hO5 hR5.row (by decide)
        have q0 : wc.cell? ⟨wr.heap.size, 0, none⟩ = some (.int .i64 now) := hb4.cell rfl
        have q1 : wc.cell? ⟨wr.heap.size, 1, none⟩ = some (.int .i64 kd) := hb4.cell rfl
        have q2 : wc.cell? ⟨wr.heap.size, 2, none⟩ = some (.int .i64 cn) := hb4.cell rfl
        have q3 : wc.cell? ⟨wr.heap.size, 3, none⟩ = some (.string (mk (nm.take 12))) := hb4.cell rfl
        have q4 : wc.cell? ⟨wr.heap.size, 4, none⟩ = some (.string (mk (tx.take 30))) := hb4.cell rfl
        have p0 := oldA q0 hq4 (.cells #[.int .i64 kd, .int .i64 cn, .string (mk (nm.take 12)), .string (mk (tx.take 30))] 46)
        have p1 := oldA q1 hq4 (.cells #[.int .i64 kd, .int .i64 cn, .string (mk (nm.take 12)), .string (mk (tx.take 30))] 46)
        have p2 := oldA q2 hq4 (.cells #[.int .i64 kd, .int .i64 cn, .string (mk (nm.take 12)), .string (mk (tx.take 30))] 46)
        have p3 := oldA q3 hq4 (.cells #[.int .i64 kd, .int .i64 cn, .string (mk (nm.take 12)), .string (mk (tx.take 30))] 46)
        have p4 := oldA q4 hq4 (.cells #[.int .i64 kd, .int .i64 cn, .string (mk (nm.take 12)), .string (mk (tx.take 30))] 46)
        obtain ⟨hrl1, hrl2, hrl3⟩ := hR5.lt
        have hh5 := Lib.hid hR5
        have hhO5 := Lib.hid hO5
        have hhb5 := Lib.hid hb5
        clear hR4 hO4 hR5 hO5 hb4 hb5 hB4 bel4
        generalize hW5 : wc.alloc (.cells #[.int .i64 kd, .int .i64 cn, .string (mk (nm.take 12)), .string (mk (tx.take 30))] 46) = w5 at *
        have hW5' := Lib.hid hW5
        clear hW5
        go_upto_region 11 with (go_at_call 20; go_loud (refine (show Calls _ _ _ (wc.alloc _) _ from by rw [hW5'.out]; exact dN.out).mono ?_; rintro e w6 ⟨rfl, nv', DK', DC', hM6, hov, hC6⟩))
        have hgl5 : wr.heap.size < w5.heap.size := by omega
        have hO6 : w6.ownsRow w1.heap.size 42 5 ov ys.length (ys.flatMap ntR) := ownsRow_chg hhO5.out hC6 (fun q hq => by
          have := (hovq q hq).1
          rintro (e | e | e | e)
          · omega
          · omega
          · omega
          · exact hap q hq e)
        have hb6 : Blk w6 wr.heap.size #[.int .i64 now, .int .i64 kd, .int .i64 cn, .string (mk (nm.take 12)), .string (mk (tx.take 30))] 42 := (hC6.block wr.heap.size hgl5 (by
          rintro (e | e | e | e)
          · omega
          · omega
          · omega
          · have := (hnvq _ e).2; omega)).trans hhb5.out
        have bel6 : Below g w w6 := Below.chg bel5 hC6 (by omega) (fun q hq => by
          rcases hq with e | e | e | e
          · omega
          · omega
          · omega
          · have := (hnvq _ e).1; omega)
        have hap6 := fun q => own_apart (q := q) hM6.row hO6 (by decide)
        have r0 : w6.cell? ⟨wr.heap.size, 0, none⟩ = some (.int .i64 now) := hb6.cell rfl
        have r1 : w6.cell? ⟨wr.heap.size, 1, none⟩ = some (.int .i64 kd) := hb6.cell rfl
        have r2 : w6.cell? ⟨wr.heap.size, 2, none⟩ = some (.int .i64 cn) := hb6.cell rfl
        have r3 : w6.cell? ⟨wr.heap.size, 3, none⟩ = some (.string (mk (nm.take 12))) := hb6.cell rfl
        have r4 : w6.cell? ⟨wr.heap.size, 4, none⟩ = some (.string (mk (tx.take 30))) := hb6.cell rfl
        have hz6 : w5.heap.size ≤ w6.heap.size := hC6.size
        have hhM6 := Lib.hid (RMX.below hM6 ((Below.refl _ _).alloc (Nat.le_refl _) (.cells #[.int .i64 now, .int .i64 kd, .int .i64 cn, .string (mk (nm.take 12)), .string (mk (tx.take 30))] 42)))
        have hbel6 := Lib.hid (bel6.alloc (show g ≤ w6.heap.size by omega) (.cells #[.int .i64 now, .int .i64 kd, .int .i64 cn, .string (mk (nm.take 12)), .string (mk (tx.take 30))] 42))
        have hlt6 := hM6.lt
        clear hM6 bel6 hb6 hC6 hhb5 hhO5 bel5 hh5 dN p0 p1 p2 p3 p4 q0 q1 q2 q3 q4
        go_wp2_with (at_builtin; refine wpList_append_own _ rfl _ _ 22 rfl w1.heap.size 42 i0 _ 5 56 Tryd.underlying22 hi hz0 hz1 hz2 rfl (by decide) _ _ _ rfl (hO6.alloc _) ⟨_, 0, none⟩ 1 1 [.int .i64 now, .int .i64 kd, .int .i64 cn, .string (mk (nm.take 12)), .string (mk (tx.take 30))] rfl rfl (World.news_of_block (heap_alloc_new w6 _)) (by simp [Value.oneCell']) (by unfold maxLen; omega) (by omega) (by simp; omega) ?_; intro v' w7 hown7 hgrow7 _)
        have hz7 := hgrow7.size
        go_roundw
        case rel =>
          refine ⟨k + 1, v', nv', DK', DC', rfl, by omega, by omega, by go_num, ⟨?_, ?_, ?_, l1, l2, l3, l4, by simp at hz7; omega⟩⟩
          · rw [htk.out]
            refine RMX.kept hhM6.out hgrow7 (fun e => ?_) (fun e => ?_) (fun e => ?_) ?_
            · have := (hovq _ e.symm).1; omega
            · have := (hovq _ e.symm).1; omega
            · have := (hovq _ e.symm).1; omega
            · cases hq : nv'.ownBlock with
              | none => exact .inl rfl
              | some q => exact .inr (fun e => hap6 q hq e.symm)
          · rw [htk.out]
            unfold OwnN
            rw [List.length_append, List.flatMap_append]
            have e2 : ([cutNt ⟨now, kd, cn, nm, tx⟩] : List Nt).flatMap ntR = [.int .i64 now, .int .i64 kd, .int .i64 cn, .string (mk (nm.take 12)), .string (mk (tx.take 30))] := by simp [ntR, cutNt]
            rw [e2]
            exact hown7
          · exact grow_low hbel6.out (by simp; omega) hgrow7 (fun q e => by have := (hovq q e).1; omega)
        case measure => simp [intOf]; omega
    · have hmin : xs.take k = xs.take 30 := by
        by_cases h30 : k = 30
        · rw [h30]
        · have : k = xs.length := by omega
          rw [this, List.take_of_length_le (Nat.le_refl _), List.take_of_length_le (by omega)]
      rw [hmin] at hn
      have hh := Lib.hid hn
      clear hn hmin
      by_cases k1 : k < xs.length
      · have k2 : ¬ k < 30 := fun e => c1 ⟨k1, e⟩
        go_wp2
        go_ret2
        exact ⟨rb, _, _, nv, kb, cb, DK, DC, rfl, by rw [hg]; exact hh.out⟩
      · go_wp2
        go_ret2
        exact ⟨rb, _, _, nv, kb, cb, DK, DC, rfl, by rw [hg]; exact hh.out⟩
end Go.Proofs.YtphbieaoedbmpaaDoor.Rp
