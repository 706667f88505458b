/- The document's words, and how one is taken. -/
import Derived.Test.YtiamkhhnnlgemaaDoorSipB
namespace Go.Proofs.YtiamkhhnnlgemaaDoor.Sip
open Go.RowKit
set_option linter.unusedVariables false
def mk (l : List UInt8) : ByteArray := ⟨l.toArray⟩
theorem mk_size (l : List UInt8) : (mk l).size = l.length := by simp [mk, ByteArray.size]
theorem mk_data (s : ByteArray) : mk s.data.toList = s := by cases s; rfl
theorem le_at (l : List UInt8) (k : Nat) (h : k < l.length) : le (l.drop k) = l[k].toNat + 256 * le (l.drop (k + 1)) := by
  rw [List.drop_eq_getElem_cons h]; rfl
set_option maxRecDepth 100000 in
theorem refWord_any (s : ByteArray) (hs : s.size ≤ 8) (w : World) :
    Calls Tryd.prog 40 #[.string s] w fun e w' => e = .returned (.int .u64 (le s.data.toList)) ∧ ∃ n, w' = w.drewN n := by
  have hz : s.data.toList.length = s.size := by simp
  have hb0 : ∃ n, w = w.drewN n := ⟨0, rfl⟩
  go_enter Tryd.func40, Tryd.ntmps40
  go_wp2_with fail
  go_loopw [3, 4] (fun x i wr => ∃ k : Nat, k ≤ s.size ∧ i = .int .i64 ((k : Int) - 1) ∧ x = .int .u64 (le (s.data.toList.drop k)) ∧ ∃ n, wr = w.drewN n) (fun _ i _ => (intOf i + 1).toNat)
  case atStart => exact ⟨s.size, Nat.le_refl _, by go_num, by rw [List.drop_eq_nil_of_le (by omega)]; rfl, hb0⟩
  case round =>
    obtain ⟨k, hk, rfl, rfl, n, rfl⟩ := hrel
    by_cases h0 : 0 < k
    · obtain ⟨j, rfl⟩ : ∃ j, k = j + 1 := ⟨k - 1, by omega⟩
      have hlt : j < s.size := by omega
      have hx : (s[j].toNat : Int) < 256 := by have := s[j].toNat_lt; omega
      have hle := le_at s.data.toList j (by omega)
      have hb := le_lt (s.data.toList.drop (j + 1))
      have hpow : 256 ^ (s.data.toList.drop (j + 1)).length ≤ 256 ^ 7 := Nat.pow_le_pow_right (by decide) (by rw [List.length_drop]; omega)
      have hb2 : le (s.data.toList.drop (j + 1)) < 72057594037927936 := Nat.lt_of_lt_of_le hb hpow
      have e1 : ((j + 1 : Nat) : Int) - 1 = j := by omega
      rw [e1]
      have hnx := Lib.hid (show ((le (s.data.toList.drop j) : Nat) : Int) = ((le (s.data.toList.drop (j + 1)) : Nat) : Int) * 256 + (s[j].toNat : Int) by rw [hle, Array.getElem_toList]; show ((s[j].toNat + 256 * le (s.data.toList.drop (j + 1)) : Nat) : Int) = _; omega)
      clear hle hb hpow
      generalize le (s.data.toList.drop (j + 1)) = m at *
      go_wp2_with fail
      go_roundw
      case rel => exact ⟨j, by omega, by go_num, by rw [hnx.out], _, rfl⟩
      case measure => first | (simp [intOf]; done) | (simp [intOf]; omega)
    · have h0 : k = 0 := by omega
      subst h0
      go_wp2_with fail
      go_ret
      exact ⟨rfl, _, rfl⟩
theorem blkNew (w : World) (o : Obj) : (w.alloc o).heap[w.heap.size]? = some o := by
  show (w.heap.push o)[w.heap.size]? = _
  simp
/-- A block of four cells. -/
def Row4 (w : World) (g : Nat) (a b c d : Value) (T : TypeId) : Prop := w.heap[g]? = some (.cells #[a, b, c, d] T)
theorem Row4.below {w w1 : World} {g : Nat} {a b c d : Value} {T : TypeId} (h : Row4 w g a b c d T) (hb : Below w.heap.size w w1) : Row4 w1 g a b c d T :=
  (hb.block g (Array.getElem?_eq_some_iff.1 h).1).trans h
theorem Row4.lt {w : World} {g : Nat} {a b c d : Value} {T : TypeId} (h : Row4 w g a b c d T) : g < w.heap.size := (Array.getElem?_eq_some_iff.1 h).1
theorem Row4.cells {w : World} {g : Nat} {a b c d : Value} {T : TypeId} (h : Row4 w g a b c d T) :
    w.cell? ⟨g, 0, none⟩ = some a ∧ w.cell? ⟨g, 1, none⟩ = some b ∧ w.cell? ⟨g, 2, none⟩ = some c ∧ w.cell? ⟨g, 3, none⟩ = some d ∧ w.frozen? ⟨g, 0, none⟩ = false ∧ w.frozen? ⟨g, 1, none⟩ = false ∧ w.frozen? ⟨g, 2, none⟩ = false ∧ w.frozen? ⟨g, 3, none⟩ = false := by
  have h : w.heap[g]? = _ := h
  refine ⟨?_, ?_, ?_, ?_, ?_, ?_, ?_, ?_⟩
  · simp only [World.cell?, h, Option.isSome_none, Bool.false_eq_true, if_false]; rfl
  · simp only [World.cell?, h, Option.isSome_none, Bool.false_eq_true, if_false]; rfl
  · simp only [World.cell?, h, Option.isSome_none, Bool.false_eq_true, if_false]; rfl
  · simp only [World.cell?, h, Option.isSome_none, Bool.false_eq_true, if_false]; rfl
  · simp only [World.frozen?, h]; simp
  · simp only [World.frozen?, h]; simp
  · simp only [World.frozen?, h]; simp
  · simp only [World.frozen?, h]; simp
theorem Row4.sets {w : World} {g : Nat} {a b c d : Value} {T : TypeId} (h : Row4 w g a b c d T) (a' b' c' d' : Value) :
    Row4 ((((w.setCell ⟨g, 0, none⟩ a').setCell ⟨g, 1, none⟩ b').setCell ⟨g, 2, none⟩ c').setCell ⟨g, 3, none⟩ d') g a' b' c' d' T := by
  have h : w.heap[g]? = _ := h
  unfold Row4
  simp only [World.setCell, Array.getElem?_modify, if_true, h, Option.map_some, Option.isSome_none, Bool.false_eq_true, if_false]
  simp
theorem Row4.set2 {w : World} {g : Nat} {a b c d : Value} {T : TypeId} (h : Row4 w g a b c d T) (c' : Value) :
    Row4 (w.setCell ⟨g, 2, none⟩ c') g a b c' d T := by
  have h : w.heap[g]? = _ := h
  unfold Row4
  simp only [World.setCell, Array.getElem?_modify, if_true, h, Option.map_some, Option.isSome_none, Bool.false_eq_true, if_false]
  simp
theorem row4_new (w : World) (a b c d : Value) (T : TypeId) : Row4 (w.alloc (.cells #[a, b, c, d] T)) w.heap.size a b c d T := blkNew _ _
theorem row4_old {w : World} {g : Nat} {a b c d : Value} {T : TypeId} (h : Row4 w g a b c d T) (o : Obj) : Row4 (w.alloc o) g a b c d T :=
  (Below.heap_alloc _ _ _ h.lt).trans h
theorem row4_new2 (w : World) (o : Obj) (a b c d : Value) (T : TypeId) : Row4 ((w.alloc o).alloc (.cells #[a, b, c, d] T)) (w.heap.size + 1) a b c d T := by
  have h := row4_new (w.alloc o) a b c d T
  simpa using h
set_option maxRecDepth 100000 in
set_option maxHeartbeats 2000000 in
theorem refTake_any (v : S4) (m : Int) (w : World) :
    Calls Tryd.prog 41 #[s4V v, .int .u64 m] w fun e w' => e = .returned (s4V (takeI v m)) ∧ Below w.heap.size w w' := by
  have d1 := refRound_any { v with d := xorI v.d m }
  have d2 := refRound_any (roundI { v with d := xorI v.d m })
  have hT := Lib.hid (show takeI v m = { roundI (roundI { v with d := xorI v.d m }) with a := xorI (roundI (roundI { v with d := xorI v.d m })).a m } from rfl)
  generalize takeI v m = R at *
  unfold s4V
  unfold s4V at d1 d2
  generalize roundI { v with d := xorI v.d m } = u1 at *
  generalize roundI u1 = u2 at *
  simp only [xorI] at d1
  go_enter Tryd.func41, Tryd.ntmps41
  go_wp2_with (first
    | (go_at_call 42; with_reducible refine (d1 _).mono ?_; rintro e w1 ⟨rfl, hb⟩; have R0 := (row4_old (row4_new w _ _ _ _ _) _).below hb; have R1 := (row4_new2 w _ _ _ _ _ _).below hb; have hB := Lib.hid (Below.trans (((Below.refl w.heap.size w).alloc (Nat.le_refl _) _).alloc (by simp) _) (hb.mono (by simp; omega))); clear hb)
    | (go_at_call 42; with_reducible refine (d2 _).mono ?_; rintro e w2 ⟨rfl, hb⟩; replace R0 := R0.below hb; replace R1 := R1.below hb; obtain ⟨c0, c1, c2, c3, f0, f1, f2, f3⟩ := R0.cells; obtain ⟨z0, z1, z2, z3, y0, y1, y2, y3⟩ := R1.cells; have l0 := R0.lt; have l1 := R1.lt; have hB2 := Lib.hid (hB.out.trans (hb.mono hB.out.size)); clear hb R0 R1))
  (try simp only [Exit.inBlock, Exit.then])
  refine bodyPost_ret (v := s4V R) ?_ rfl ⟨rfl, ?_⟩
  · rw [results_cell rfl, hT.out]; go_simp; rfl
  · (repeat' (first | with_reducible exact hB2.out | with_reducible refine Below.setCell ?_ (by first | (simp; done) | (simp; omega) | omega) _ | with_reducible refine Below.alloc ?_ (by first | (simp; done) | (simp; omega) | omega) _ | with_reducible refine drewBelow ?_))
end Go.Proofs.YtiamkhhnnlgemaaDoor.Sip
