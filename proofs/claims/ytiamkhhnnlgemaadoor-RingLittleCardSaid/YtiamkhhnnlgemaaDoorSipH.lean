/- The program's write. -/
import Derived.Test.YtiamkhhnnlgemaaDoorSipG
import Derived.Test.YtiamkhhnnlgemaaDoorSipE
namespace Go.Proofs.YtiamkhhnnlgemaaDoor.Sip
open Go.RowKit Go.Lib
set_option linter.unusedVariables false
theorem info8 : (Tryd.prog.info? 5).map (fun i => (i.zero, i.size, i.bytes)) = some (some (.int .u8 0), 1, 1) := by kernel_rfl
theorem St.kept {w w' : World} {g : Nat} {a b c d : Int} {left v : Value} {n : Int} {l : List UInt8} (h : St w g a b c d left n) (hr : OffRow w (g + 1) v l) (hk : w.grownBy w' v.ownBlock) : St w' g a b c d left n :=
  (hk.block g h.lt (fun e => by have := hr.own g e.symm; omega)).trans h
theorem OffRow.set {w : World} {g o : Nat} {v x : Value} {l : List UInt8} (h : OffRow w (g + 1) v l) : OffRow (w.setCell ⟨g, o, none⟩ x) (g + 1) v l :=
  h.kept (keepSet' ⟨rfl, rfl, rfl, Nat.le_refl _, fun k _ _ => rfl⟩ o x)
/-- How many bytes are left. -/
def leftAt (g : Nat) (w : World) : Nat := match w.cell? ⟨g, 4, none⟩ with | some (.slice _ n _) => n | _ => 0
set_option maxRecDepth 100000 in
set_option maxHeartbeats 4000000 in
theorem write_any (v : S4) (left : Value) (l t : List UInt8) (n g : Nat) (w : World) (hS : St w g v.a v.b v.c v.d left n) (hl : OffRow w (g + 1) left l) (h8 : l.length < 8) (ht : t.length ≤ 1000000) (hn : n ≤ 1000000000) :
    Calls Tryd.prog 32 #[.pointer (some ⟨g, 0, none⟩), .string (mk t)] w fun e w' => e = .returned (.tuple #[]) ∧ ∃ left', St w' g (blocks v (l ++ t)).1.a (blocks v (l ++ t)).1.b (blocks v (l ++ t)).1.c (blocks v (l ++ t)).1.d left' ((n + t.length : Nat) : Int) ∧ OffRow w' (g + 1) left' (blocks v (l ++ t)).2 ∧ Below g w w' := by
  obtain ⟨i0, hi, hz0, hz1, hz2⟩ := info_parts info8
  obtain ⟨pp, cap, hlv⟩ := hl.len
  subst hlv
  have hS1 := hS.set5 ((n : Int) + (t.length : Int))
  have hl1 : OffRow (w.setCell ⟨g, 5, none⟩ (.int .i64 ((n : Int) + (t.length : Int)))) (g + 1) (.slice pp l.length cap) l := hl.set
  have lt0 := hS.lt
  have hb1 : Below g w (w.setCell ⟨g, 5, none⟩ (.int .i64 ((n : Int) + (t.length : Int)))) := (Below.refl _ _).setCell (p := ⟨g, 5, none⟩) (Nat.le_refl _) _
  have hz1' : (w.setCell ⟨g, 5, none⟩ (.int .i64 ((n : Int) + (t.length : Int)))).heap.size = w.heap.size := by simp [World.setCell]
  have hts : ((mk t).size : Int) = (t.length : Int) := by rw [mk_size]
  obtain ⟨p0, p1, p2, p3, p4, p5, q0, q1, q2, q3, q4, q5⟩ := hS.cells
  go_enter Tryd.func32, Tryd.ntmps32
  go_wp2_with (at_builtin; refine wpList_append_off _ rfl _ _ rfl (g + 1) _ l t i0 hi hz0 hz1 hz2 rfl rfl hl1 (by omega) (by omega) ?_; intro left2 w2 hl2 hgr; obtain ⟨pq, cap2, rfl⟩ := hl2.len; have hS2 := hS1.kept hl1 hgr; have lt2 := hS2.lt; obtain ⟨r0, r1, r2, r3, r4, r5, s0, s1, s2, s3, s4, s5⟩ := hS2.cells)
  have hlt2 : (l ++ t).length = l.length + t.length := List.length_append
  rw [hlt2] at hl2
  have hS3 := hS2.set4 (.slice pq (l.length + t.length) cap2)
  have hl3 : OffRow (w2.setCell ⟨g, 4, none⟩ (.slice pq (l.length + t.length) cap2)) (g + 1) (.slice pq (l.length + t.length) cap2) (l ++ t) := hl2.set
  have hB2 : Below g w w2 := hb1.trans (below_keep hgr (by omega) (fun b e => by have := hl1.own b e; omega))
  have hB3 : Below g w (w2.setCell ⟨g, 4, none⟩ (.slice pq (l.length + t.length) cap2)) := hB2.setCell (p := ⟨g, 4, none⟩) (Nat.le_refl _) _
  have hnn : (n : Int) + (t.length : Int) = ((n + t.length : Nat) : Int) := by omega
  rw [hnn] at hS3
  generalize w2.setCell ⟨g, 4, none⟩ (.slice pq (l.length + t.length) cap2) = w3 at *
  generalize (.slice pq (l.length + t.length) cap2 : Value) = V3 at *
  replace hlt2 := Lib.hid hlt2
  clear hnn hS hl hS1 hl1 hb1 hz1' p0 p1 p2 p3 p4 p5 q0 q1 q2 q3 q4 q5 r0 r1 r2 r3 r4 r5 s0 s1 s2 s3 s4 s5 hS2 hl2 hgr hB2
  go_loopw [] (fun wr => ∃ (u : S4) (lv : Value) (r : List UInt8), St wr g u.a u.b u.c u.d lv ((n + t.length : Nat) : Int) ∧ OffRow wr (g + 1) lv r ∧ Hid (blocks u r = blocks v (l ++ t)) ∧ r.length ≤ l.length + t.length ∧ Below g w wr) (fun wr => leftAt g wr)
  case atStart => exact ⟨v, V3, l ++ t, hS3, hl3, Lib.hid rfl, Nat.le_of_eq hlt2.out, hB3⟩
  case round =>
    obtain ⟨u, lv, r, hSr, hlr, hbl, hrl, hBr⟩ := hrel
    clear hS3 hl3 hB3
    by_cases hr8 : 8 ≤ r.length
    · obtain ⟨g1, off, cap, rfl, hg1, hle⟩ := hlr.shape (by omega)
      have d1 := word_any g1 off r r.length cap hr8 rfl wr (hlr.cell).2
      have d2 := take_any u (le (r.take 8)) (.slice (some ⟨g1, off, none⟩) r.length cap) ((n + t.length : Nat) : Int) g wr hSr
      have hbl2 := Lib.hid (show blocks (takeI u (le (r.take 8))) (r.drop 8) = blocks v (l ++ t) by rw [← hbl.out, blocks_ge u r hr8])
      obtain ⟨p0, p1, p2, p3, p4, p5, q0, q1, q2, q3, q4, q5⟩ := hSr.cells
      have ltr := hSr.lt
      generalize takeI u (le (r.take 8)) = u2 at *
      generalize ((le (r.take 8) : Nat) : Int) = m at *
      go_wp2_with (first
        | (go_at_call 31; refine d1.mono ?_; rintro e w4 ⟨rfl, hw4⟩; rw [hw4]; clear hw4 w4)
        | (go_at_call 46; refine d2.mono ?_; rintro e w5 ⟨rfl, hS5, hG5⟩; have hl5 := hlr.kept hG5; obtain ⟨i0', i1, i2, i3, i4, i5, j0, j1, j2, j3, j4, j5⟩ := hS5.cells; have lt5 := hS5.lt))
      go_roundw
      case rel =>
        refine ⟨u2, .slice (if cap = 8 then some ⟨g1, off, none⟩ else some ⟨g1, off + 8, none⟩) (r.length - 8) (cap - 8), r.drop 8, hS5.set4 _, (hl5.drop hr8).set, hbl2, by rw [List.length_drop]; omega, ?_⟩
        exact (hBr.trans (below_keep hG5 (by omega) (fun b e => by cases e; omega))).setCell (p := ⟨g, 4, none⟩) (Nat.le_refl _) _
      case measure =>
        have m1 : leftAt g wr = r.length := by unfold leftAt; rw [p4]
        have m2 := (hS5.set4 (.slice (if cap = 8 then some ⟨g1, off, none⟩ else some ⟨g1, off + 8, none⟩) (r.length - 8) (cap - 8))).cells.2.2.2.2.1
        have m3 : leftAt g (w5.setCell ⟨g, 4, none⟩ (.slice (if cap = 8 then some ⟨g1, off, none⟩ else some ⟨g1, off + 8, none⟩) (r.length - 8) (cap - 8))) = r.length - 8 := by unfold leftAt; rw [m2]
        omega
    · have hbE := Lib.hid (show blocks v (l ++ t) = (u, r) by rw [← hbl.out, blocks_end u r hr8])
      obtain ⟨pz, cz, rfl⟩ := hlr.len
      obtain ⟨p0, p1, p2, p3, p4, p5, q0, q1, q2, q3, q4, q5⟩ := hSr.cells
      have hlt8 : (r.length : Int) < 8 := by omega
      go_wp2
      go_end0
      exact ⟨rfl, _, by rw [hbE.out]; exact hSr, by rw [hbE.out]; exact hlr, hBr⟩
end Go.Proofs.YtiamkhhnnlgemaaDoor.Sip
