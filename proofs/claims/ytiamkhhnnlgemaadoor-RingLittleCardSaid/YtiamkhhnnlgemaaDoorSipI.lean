/- The program's end. -/
import Derived.Test.YtiamkhhnnlgemaaDoorSipH
import Derived.Laws.CopyRow
namespace Go.Proofs.YtiamkhhnnlgemaaDoor.Sip
open Go.RowKit Go.Lib
set_option linter.unusedVariables false
theorem wpList_copy_eq {P : Program} (w : World) {ops : Array Oper} {rest : List Oper} {o : Oper} {a : Act} {Q : Exit → Act → World → Prop} (hgd : o.guard = none) (d s : Operand) (t t' : TypeId)
    (ho : o.op = .call { callee := .builtin .copy, args := #[d, s], argTypes := #[t, t'] }) (v u : Value) (hd : a.eval d = v) (hs : a.eval s = u) {v' : Value} {w' : World}
    (hr : (Builtin.copy_ #[t, t'] o.type #[v, u]).run P w = .ok v' w') (h : wpList P ops Q rest (a.put o.dst v') w') : wpList P ops Q (o :: rest) a w := by
  refine wpList_plain hgd fun K hK => ?_
  unfold Oper.wp execOp
  simp only [ho, resolve, invoke, builtin, Sem.run_bind, Sem.run_pure, Result.andThen_ok, List.map_toArray, List.map_cons, List.map_nil, hd, hs, hr]
  exact hK _ _ h
/-- A block of bytes. -/
def BytesAt (w : World) (B : Nat) (l : List UInt8) (T : TypeId) : Prop := w.heap[B]? = some (.cells (l.map u8V).toArray T)
theorem BytesAt.cell {w : World} {B : Nat} {l : List UInt8} {T : TypeId} (h : BytesAt w B l T) (j : Nat) (hj : j < l.length) : w.cell? ⟨B, j, none⟩ = some (.int .u8 (l[j].toNat : Int)) := by
  have h : w.heap[B]? = _ := h
  simp only [World.cell?, h, Option.isSome_none, Bool.false_eq_true, if_false]
  simp [hj, u8V]
theorem BytesAt.free {w : World} {B : Nat} {l : List UInt8} {T : TypeId} (h : BytesAt w B l T) (j : Nat) : w.frozen? ⟨B, j, none⟩ = false := by
  have h : w.heap[B]? = _ := h
  simp only [World.frozen?, h]; simp
theorem BytesAt.set {w : World} {B : Nat} {l : List UInt8} {T : TypeId} (h : BytesAt w B l T) (j : Nat) (hj : j < l.length) (b : UInt8) : BytesAt (w.setCell ⟨B, j, none⟩ (.int .u8 (b.toNat : Int))) B (l.set j b) T := by
  have h : w.heap[B]? = _ := h
  unfold BytesAt
  simp only [World.setCell, Array.getElem?_modify, if_true, h, Option.map_some, Option.isSome_none, Bool.false_eq_true, if_false]
  rw [List.map_set]
  simp [u8V]
theorem BytesAt.keep {w w' : World} {B : Nat} {l : List UInt8} {T : TypeId} {ob : Option Nat} (h : BytesAt w B l T) (hk : w.grownBy w' ob) (hne : some B ≠ ob) : BytesAt w' B l T :=
  (hk.block B (Array.getElem?_eq_some_iff.1 h).1 hne).trans h
theorem copy_left (w : World) (B base : Nat) (T8 t t' ty : TypeId) (lv : Value) (l : List UInt8) (ht : Tryd.prog.underlying t = some (.slice 5)) (hB : BytesAt w B (List.replicate 8 0) T8) (hl : OffRow w base lv l) (h8 : l.length < 8) :
    ∃ r w2, (Builtin.copy_ #[t, t'] ty #[.slice (some ⟨B, 0, none⟩) 8 8, lv]).run Tryd.prog w = .ok r w2 ∧ BytesAt w2 B (l ++ List.replicate (8 - l.length) 0) T8 ∧ w.grownBy w2 (some B) := by
  rcases hl with ⟨rfl, rfl⟩ | ⟨g, off, cap, cur, rfl, hbg, hg, hlc, hc, hj⟩
  · exact ⟨_, w, run_copy_nil (P := Tryd.prog) w t t' ty 5 ⟨B, 0, none⟩ 8 8 ht (by kernel_rfl), hB, ⟨rfl, rfl, rfl, Nat.le_refl _, fun _ _ _ => rfl⟩⟩
  · have hr := run_copy_row (P := Tryd.prog) w t t' ty 5 B 0 8 8 ⟨g, off, none⟩ l.length cap ((List.replicate 8 (0 : UInt8)).map u8V).toArray T8 (l.map u8V) ht (by kernel_rfl) hB
      (by rw [List.length_map]; exact (Nat.min_eq_left (by omega)).symm)
      (fun j v hv => by
        rw [List.getElem?_map] at hv
        obtain ⟨b, hb2, rfl⟩ := Option.map_eq_some_iff.1 hv
        have hjl := (List.getElem?_eq_some_iff.1 hb2).1
        rw [Addr.add_lit]
        simp only [World.cell?, hg, Option.isSome_none, Bool.false_eq_true, if_false]
        rw [hj j hjl]
        rw [List.getElem?_eq_getElem hjl] at hb2
        rw [Option.some.inj hb2])
      (by simp; omega) (fun v hv => by
        simp only [List.mem_map] at hv
        obtain ⟨b, _, rfl⟩ := hv
        rfl)
    refine ⟨_, _, hr, ?_, ⟨rfl, rfl, rfl, by simp, fun k _ hk => setRow_other w B k _ (fun e => hk (by rw [e]))⟩⟩
    have e : (((List.replicate 8 (0 : UInt8)).map u8V).toArray.toList.take 0 ++ l.map u8V ++ ((List.replicate 8 (0 : UInt8)).map u8V).toArray.toList.drop (0 + (l.map u8V).length)) = (l ++ List.replicate (8 - l.length) 0).map u8V := by
      rw [List.take_zero, List.nil_append, Nat.zero_add, List.length_map, List.map_append, List.map_replicate, List.map_replicate, List.drop_replicate]
    rw [e]
    exact setRow_heap w B _ _ T8 _ hB
theorem last_bytes (l : List UInt8) (h8 : l.length < 8) (c : UInt8) : (l ++ List.replicate (8 - l.length) 0).set 7 c = (l ++ List.replicate (7 - l.length) 0) ++ [c] := by
  rw [show 8 - l.length = (7 - l.length) + 1 by omega, List.replicate_succ', ← List.append_assoc]
  rw [List.set_append_right _ _ (by simp; omega)]
  rw [show 7 - (l ++ List.replicate (7 - l.length) (0 : UInt8)).length = 0 by simp; omega]
  rfl
theorem last_le (l : List UInt8) (h8 : l.length < 8) (c : UInt8) : le ((l ++ List.replicate (8 - l.length) 0).set 7 c) = le l + c.toNat * 2 ^ 56 := by
  rw [last_bytes l h8 c, le_snoc, le_zeros]
  have e : (l ++ List.replicate (7 - l.length) (0 : UInt8)).length = 7 := by simp; omega
  rw [e]
theorem wrap8 (n : Nat) : IntKind.u8.wrap (n : Int) = ((UInt8.ofNat n).toNat : Int) := by
  rw [UInt8.toNat_ofNat']
  simp [IntKind.wrap, IntKind.bits, IntKind.signed]
set_option maxRecDepth 100000 in
set_option maxHeartbeats 4000000 in
theorem end_any (v : S4) (left : Value) (l : List UInt8) (n g : Nat) (w : World) (hS : St w g v.a v.b v.c v.d left n) (hl : OffRow w (g + 1) left l) (h8 : l.length < 8) (hn : n ≤ 1000000000) :
    Calls Tryd.prog 33 #[.pointer (some ⟨g, 0, none⟩)] w fun e w' => e = .returned (.int .u64 (endI v l n)) ∧ Below g w w' := by
  obtain ⟨pp, cap, hlv⟩ := hl.len
  subst hlv
  have lt0 := hS.lt
  have hg1 : w.grownBy (w.alloc (.cells #[.int .u8 0, .int .u8 0, .int .u8 0, .int .u8 0, .int .u8 0, .int .u8 0, .int .u8 0, .int .u8 0] 100)) (some g) := ⟨rfl, rfl, rfl, by simp, fun k hk _ => Below.heap_alloc _ _ _ hk⟩
  have hB0 : BytesAt (w.alloc (.cells #[.int .u8 0, .int .u8 0, .int .u8 0, .int .u8 0, .int .u8 0, .int .u8 0, .int .u8 0, .int .u8 0] 100)) w.heap.size (List.replicate 8 0) 100 := blkNew _ _
  have hS1 : St (w.alloc (.cells #[.int .u8 0, .int .u8 0, .int .u8 0, .int .u8 0, .int .u8 0, .int .u8 0, .int .u8 0, .int .u8 0] 100)) g v.a v.b v.c v.d (.slice pp l.length cap) n := (Below.heap_alloc _ _ _ lt0).trans hS
  have hl1 := hl.kept hg1
  have hb1 : Below g w (w.alloc (.cells #[.int .u8 0, .int .u8 0, .int .u8 0, .int .u8 0, .int .u8 0, .int .u8 0, .int .u8 0, .int .u8 0] 100)) := (Below.refl g w).alloc (by omega) _
  have hE := Lib.hid (endI_iter v l n)
  go_enter Tryd.func33, Tryd.ntmps33
  go_wp2
  generalize w.alloc (.cells #[.int .u8 0, .int .u8 0, .int .u8 0, .int .u8 0, .int .u8 0, .int .u8 0, .int .u8 0, .int .u8 0] 100) = w1 at *
  generalize w.heap.size = B at *
  have lt1 := hS1.lt
  obtain ⟨p0, p1, p2, p3, p4, p5, q0, q1, q2, q3, q4, q5⟩ := hS1.cells
  refine tailDrew 5 mixed_ok (by kernel_rfl) ?_
  simp only [List.take_succ_cons, List.take_zero, List.drop_succ_cons, List.drop_zero]
  repeat still_step
  (try refine wpStill_nil ?_)
  obtain ⟨r, w2, hrun, hB2, hk2⟩ := copy_left w1.drew B (g + 1) 100 37 37 3 (.slice pp l.length cap) l Tryd.underlying37 hB0 hl1 h8
  have hS2 : St w2 g v.a v.b v.c v.d (.slice pp l.length cap) n := (hk2.block g lt1 (by intro e; cases e; omega)).trans hS1
  have hb2 : Below g w w2 := (Below.drew hb1).trans (below_keep hk2 (Nat.le_of_lt lt1) (fun b e => by cases e; omega))
  clear p0 p1 p2 p3 p4 p5 q0 q1 q2 q3 q4 q5
  refine wpList_copy_eq _ rfl _ _ _ _ rfl _ _ rfl rfl hrun ?_
  have ltB : B < w2.heap.size := (Array.getElem?_eq_some_iff.1 hB2).1
  have lt2 := hS2.lt
  have hlen8 : (l ++ List.replicate (8 - l.length) (0 : UInt8)).length = 8 := by simp; omega
  have hB3 := hB2.set 7 (by omega) (UInt8.ofNat n)
  have hle := last_le l h8 (UInt8.ofNat n)
  have hlen9 : ((l ++ List.replicate (8 - l.length) (0 : UInt8)).set 7 (UInt8.ofNat n)).length = 8 := by rw [List.length_set, hlen8]
  have hc7 := hB2.cell 7 (by omega)
  have hf7 := hB2.free 7
  have hn8 : ((UInt8.ofNat n).toNat : Int) = (n : Int) % 256 := by rw [UInt8.toNat_ofNat']; omega
  rw [hn8] at hB3
  clear hn8
  have hS3 : St (w2.setCell ⟨B, 7, none⟩ (.int .u8 ((n : Int) % 256))) g v.a v.b v.c v.d (.slice pp l.length cap) n := (Below.heap_setCell w2 ⟨B, 7, none⟩ _ g (by intro e; simp at e; omega)).trans hS2
  have hb3 : Below g w (w2.setCell ⟨B, 7, none⟩ (.int .u8 ((n : Int) % 256))) := hb2.setCell (p := ⟨B, 7, none⟩) (by simp; omega) _
  obtain ⟨p0, p1, p2, p3, p4, p5, q0, q1, q2, q3, q4, q5⟩ := hS2.cells
  have hM : le ((l ++ List.replicate (8 - l.length) (0 : UInt8)).set 7 (UInt8.ofNat n)) = le l + (n % 256) * 2 ^ 56 := by rw [hle, UInt8.toNat_ofNat']
  generalize (l ++ List.replicate (8 - l.length) (0 : UInt8)).set 7 (UInt8.ofNat n) = b9 at *
  generalize (l ++ List.replicate (8 - l.length) (0 : UInt8))[7] = x7 at *
  have d1 := word_any B 0 b9 8 8 (by omega) hlen9 (w2.setCell ⟨B, 7, none⟩ (.int .u8 ((n : Int) % 256))) (fun j hj => by rw [Nat.zero_add]; exact hB3.cell j hj)
  rw [List.take_of_length_le (by omega), hM] at d1
  clear hB2 hlen8 hle hM
  generalize ((le l + (n % 256) * 2 ^ 56 : Nat) : Int) = M at *
  have d2 := fun (w3 : World) (h : St w3 g v.a v.b v.c v.d (.slice pp l.length cap) n) => take_any v M (.slice pp l.length cap) n g w3 h
  generalize takeI v M = u at *
  replace hE := Lib.hid hE.out
  replace d1 := Lib.hid d1
  replace d2 := Lib.hid d2
  go_wp2_with (first
    | (go_at_call 31; generalize w2.setCell ⟨B, 7, none⟩ (.int .u8 ((n : Int) % 256)) = w3 at *; refine d1.out.mono ?_; rintro e w4 ⟨rfl, hw4⟩; rw [hw4]; clear hw4 w4)
    | (go_at_call 46; clear p0 p1 p2 p3 p4 p5 q0 q1 q2 q3 q4 q5; refine (d2.out _ hS3).mono ?_; rintro e w5 ⟨rfl, hS5, hG5⟩; obtain ⟨p0, p1, p2, p3, p4, p5, q0, q1, q2, q3, q4, q5⟩ := hS5.cells; have lt5 := hS5.lt))
  have hS6 : St (w5.setCell ⟨g, 2, none⟩ (.int .u64 (bits .xor .u64 u.c 255))) g u.a u.b (xorI u.c 255) u.d (.slice pp l.length cap) n := hS5.set2 _
  have hb6 : Below g w (w5.setCell ⟨g, 2, none⟩ (.int .u64 (bits .xor .u64 u.c 255))) := (hb3.trans (below_keep hG5 (Nat.le_of_lt hS3.lt) (fun b e => by cases e; omega))).setCell (p := ⟨g, 2, none⟩) (Nat.le_refl _) _
  generalize w5.setCell ⟨g, 2, none⟩ (.int .u64 (bits .xor .u64 u.c 255)) = w6 at *
  clear p0 p1 p2 p3 p4 p5 q0 q1 q2 q3 q4 q5 hS5 hG5 hb3 hS3 hb2 hS2 hk2 hrun
  go_loopw [27] (fun i wr => ∃ (k : Nat) (u2 : S4), k ≤ 4 ∧ i = .int .i64 k ∧ Hid (u2 = iterR k { u with c := xorI u.c 255 }) ∧ St wr g u2.a u2.b u2.c u2.d (.slice pp l.length cap) n ∧ Below g w wr) (fun i _ => 4 - (intOf i).toNat)
  case atStart => exact ⟨0, { u with c := xorI u.c 255 }, by omega, rfl, Lib.hid rfl, hS6, hb6⟩
  case round =>
    obtain ⟨k, u2, hk, rfl, hu, hSk, hbk⟩ := hrel
    clear hS6 hb6
    by_cases h4 : k < 4
    · have d3 := round_any u2 (.slice pp l.length cap) n g wr hSk
      have hu3 := Lib.hid (show roundI u2 = iterR (k + 1) { u with c := xorI u.c 255 } by rw [iterR_succ, ← hu.out])
      generalize roundI u2 = u3 at *
      go_wp2_with (go_at_call 47; refine d3.mono ?_; rintro e w7 ⟨rfl, hS7, hG7⟩)
      go_roundw
      case rel => exact ⟨k + 1, u3, by omega, by go_num, hu3, hS7, hbk.trans (below_keep hG7 (Nat.le_of_lt hSk.lt) (fun b e => by cases e; omega))⟩
      case measure => first | (simp [intOf]; done) | (simp [intOf]; omega)
    · have hk4 : k = 4 := by omega
      subst hk4
      have hF0 := hE.out
      rw [← hu.out] at hF0
      simp only [xorI] at hF0
      have hF := Lib.hid hF0
      clear hF0
      obtain ⟨p0, p1, p2, p3, p4, p5, q0, q1, q2, q3, q4, q5⟩ := hSk.cells
      go_wp2
      go_quiet (fail)
      go_wp2
      go_ret
      exact ⟨by rw [hF.out]; rfl, drewBelow hbk⟩
end Go.Proofs.YtiamkhhnnlgemaaDoor.Sip
