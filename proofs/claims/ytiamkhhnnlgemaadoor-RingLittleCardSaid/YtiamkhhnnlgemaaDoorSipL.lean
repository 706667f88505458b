/- A key out of a text. -/
import Derived.Test.YtiamkhhnnlgemaaDoorSipJ
import Derived.Lib.BufferWrite
namespace Go.Proofs.YtiamkhhnnlgemaaDoor.Sip
open Go.RowKit Go.Lib
set_option linter.unusedVariables false
/-- The first 16 bytes, zeros behind them. -/
def keyL (s : List UInt8) : List UInt8 := s.take 16 ++ List.replicate (16 - (s.take 16).length) 0
theorem keyL_len (s : List UInt8) : (keyL s).length = 16 := by unfold keyL; simp; omega
theorem list16 {l : List UInt8} (h : l.length = 16) : ∃ k0 k1 k2 k3 k4 k5 k6 k7 k8 k9 k10 k11 k12 k13 k14 k15, l = [k0, k1, k2, k3, k4, k5, k6, k7, k8, k9, k10, k11, k12, k13, k14, k15] := by
  match l, h with
  | [k0, k1, k2, k3, k4, k5, k6, k7, k8, k9, k10, k11, k12, k13, k14, k15], _ => exact ⟨k0, k1, k2, k3, k4, k5, k6, k7, k8, k9, k10, k11, k12, k13, k14, k15, rfl⟩
theorem copy_key (w : World) (B : Nat) (T dT sT ty : TypeId) (s : List UInt8) (hu : Tryd.prog.underlying dT = some (.slice 5)) (hB : BytesAt w B (List.replicate 16 0) T) :
    ∃ r w2, (Builtin.copy_ #[dT, sT] ty #[.slice (some ⟨B, 0, none⟩) 16 16, .string (mk s)]).run Tryd.prog w = .ok r w2 ∧ BytesAt w2 B (keyL s) T ∧ w.grownBy w2 (some B) := by
  have hl : (byteCells (s.take 16)).length = (s.take 16).length := by rw [byteCells_length]
  have hl2 : (s.take 16).length ≤ 16 := by simp; omega
  have hst := run_storeCells_at Tryd.prog B 0 T (byteCells (s.take 16)) 0 ((List.replicate 16 (0 : UInt8)).map u8V).toArray w hB (by rw [hl]; show 0 + 0 + (s.take 16).length ≤ 16; omega) (byteCells_one _)
  have hmin : Nat.min s.length 16 = (s.take 16).length := by rw [List.length_take]; exact Nat.min_comm _ _
  have htk : List.take (s.take 16).length (List.map (fun b : UInt8 => Value.int IntKind.u8 (b.toNat : Int)) s) = byteCells (s.take 16) := by
    rw [← List.map_take]
    have : s.take (s.take 16).length = s.take 16 := by rw [List.length_take]; exact List.take_eq_take_iff.2 (by omega)
    rw [this]; rfl
  have e : (((List.replicate 16 (0 : UInt8)).map u8V).toArray.toList.take 0 ++ byteCells (s.take 16) ++ ((List.replicate 16 (0 : UInt8)).map u8V).toArray.toList.drop (0 + (s.take 16).length)) = (keyL s).map u8V := by
    unfold keyL
    rw [List.take_zero, List.nil_append, Nat.zero_add, List.map_append, List.map_replicate, List.map_replicate, List.drop_replicate]; rfl
  simp only [Nat.add_zero, hl] at hst
  rw [e] at hst
  have hsz := mk_size s
  have hi : (Tryd.prog.info? 5).map (·.size) = some 1 := by kernel_rfl
  cases hq : Tryd.prog.info? 5 with
  | none => simp [hq] at hi
  | some i =>
    refine ⟨goInt (s.take 16).length, w.setRow B ((keyL s).map u8V).toArray, ?_, setRow_heap w B _ _ T _ hB, ⟨rfl, rfl, rfl, by simp [World.setRow], fun k _ hk => setRow_other w B k _ (fun e => hk (by rw [e]))⟩⟩
    have hd : (mk s).data.toList = s := rfl
    simp [Builtin.copy_, run_underlying hu, Builtin.lenOf, Builtin.firstCells, sizeOf, typeInfo, hq, hsz, hmin, hd]
    rw [← List.length_take, htk, hst]
    rfl
set_option maxRecDepth 100000 in
set_option maxHeartbeats 4000000 in
theorem keyOf_any (s : List UInt8) (w : World) :
    Calls Tryd.prog 9 #[.string (mk s)] w fun e w' => e = .returned (.agg ((keyL s).map u8V).toArray) ∧ Below w.heap.size w w' := by
  have hR0 : BytesAt ((w.alloc (.cells #[.int .u8 0, .int .u8 0, .int .u8 0, .int .u8 0, .int .u8 0, .int .u8 0, .int .u8 0, .int .u8 0, .int .u8 0, .int .u8 0, .int .u8 0, .int .u8 0, .int .u8 0, .int .u8 0, .int .u8 0, .int .u8 0] 26)).alloc (.cells #[.int .u8 0, .int .u8 0, .int .u8 0, .int .u8 0, .int .u8 0, .int .u8 0, .int .u8 0, .int .u8 0, .int .u8 0, .int .u8 0, .int .u8 0, .int .u8 0, .int .u8 0, .int .u8 0, .int .u8 0, .int .u8 0] 26)) w.heap.size (List.replicate 16 0) 26 := (Below.heap_alloc _ _ _ (by simp)).trans (blkNew _ _)
  have hB0 : BytesAt ((w.alloc (.cells #[.int .u8 0, .int .u8 0, .int .u8 0, .int .u8 0, .int .u8 0, .int .u8 0, .int .u8 0, .int .u8 0, .int .u8 0, .int .u8 0, .int .u8 0, .int .u8 0, .int .u8 0, .int .u8 0, .int .u8 0, .int .u8 0] 26)).alloc (.cells #[.int .u8 0, .int .u8 0, .int .u8 0, .int .u8 0, .int .u8 0, .int .u8 0, .int .u8 0, .int .u8 0, .int .u8 0, .int .u8 0, .int .u8 0, .int .u8 0, .int .u8 0, .int .u8 0, .int .u8 0, .int .u8 0] 26)) (w.heap.size + 1) (List.replicate 16 0) 26 := by
    have h := blkNew (w.alloc (.cells #[.int .u8 0, .int .u8 0, .int .u8 0, .int .u8 0, .int .u8 0, .int .u8 0, .int .u8 0, .int .u8 0, .int .u8 0, .int .u8 0, .int .u8 0, .int .u8 0, .int .u8 0, .int .u8 0, .int .u8 0, .int .u8 0] 26)) (.cells #[.int .u8 0, .int .u8 0, .int .u8 0, .int .u8 0, .int .u8 0, .int .u8 0, .int .u8 0, .int .u8 0, .int .u8 0, .int .u8 0, .int .u8 0, .int .u8 0, .int .u8 0, .int .u8 0, .int .u8 0, .int .u8 0] 26)
    rw [show (w.alloc (.cells #[.int .u8 0, .int .u8 0, .int .u8 0, .int .u8 0, .int .u8 0, .int .u8 0, .int .u8 0, .int .u8 0, .int .u8 0, .int .u8 0, .int .u8 0, .int .u8 0, .int .u8 0, .int .u8 0, .int .u8 0, .int .u8 0] 26)).heap.size = w.heap.size + 1 by simp] at h
    exact h
  have hb : Below w.heap.size w ((w.alloc (.cells #[.int .u8 0, .int .u8 0, .int .u8 0, .int .u8 0, .int .u8 0, .int .u8 0, .int .u8 0, .int .u8 0, .int .u8 0, .int .u8 0, .int .u8 0, .int .u8 0, .int .u8 0, .int .u8 0, .int .u8 0, .int .u8 0] 26)).alloc (.cells #[.int .u8 0, .int .u8 0, .int .u8 0, .int .u8 0, .int .u8 0, .int .u8 0, .int .u8 0, .int .u8 0, .int .u8 0, .int .u8 0, .int .u8 0, .int .u8 0, .int .u8 0, .int .u8 0, .int .u8 0, .int .u8 0] 26)) := ((Below.refl _ w).alloc (Nat.le_refl _) _).alloc (by simp) _
  have hsz : w.heap.size + 1 < ((w.alloc (.cells #[.int .u8 0, .int .u8 0, .int .u8 0, .int .u8 0, .int .u8 0, .int .u8 0, .int .u8 0, .int .u8 0, .int .u8 0, .int .u8 0, .int .u8 0, .int .u8 0, .int .u8 0, .int .u8 0, .int .u8 0, .int .u8 0] 26)).alloc (.cells #[.int .u8 0, .int .u8 0, .int .u8 0, .int .u8 0, .int .u8 0, .int .u8 0, .int .u8 0, .int .u8 0, .int .u8 0, .int .u8 0, .int .u8 0, .int .u8 0, .int .u8 0, .int .u8 0, .int .u8 0, .int .u8 0] 26)).heap.size := by simp
  obtain ⟨k0, k1, k2, k3, k4, k5, k6, k7, k8, k9, k10, k11, k12, k13, k14, k15, hk⟩ := list16 (keyL_len s)
  obtain ⟨r, w2, hrun, hB2, hk2⟩ := copy_key ((w.alloc (.cells #[.int .u8 0, .int .u8 0, .int .u8 0, .int .u8 0, .int .u8 0, .int .u8 0, .int .u8 0, .int .u8 0, .int .u8 0, .int .u8 0, .int .u8 0, .int .u8 0, .int .u8 0, .int .u8 0, .int .u8 0, .int .u8 0] 26)).alloc (.cells #[.int .u8 0, .int .u8 0, .int .u8 0, .int .u8 0, .int .u8 0, .int .u8 0, .int .u8 0, .int .u8 0, .int .u8 0, .int .u8 0, .int .u8 0, .int .u8 0, .int .u8 0, .int .u8 0, .int .u8 0, .int .u8 0] 26)) (w.heap.size + 1) 26 37 9 3 s Tryd.underlying37 hB0
  have hR2 := hR0.keep hk2 (by intro e; simp at e)
  replace hb := hb.trans (below_keep hk2 (by omega) (fun b e => by cases e; omega))
  have hlt : w.heap.size + 1 < w2.heap.size := Nat.lt_of_lt_of_le hsz hk2.size
  rw [hk] at hB2
  clear hk2 hB0 hR0 hsz
  have c0 : w2.cell? ⟨w.heap.size + 1, 0, none⟩ = some (.int .u8 (k0.toNat : Int)) := hB2.cell 0 (by simp)
  have c1 : w2.cell? ⟨w.heap.size + 1, 1, none⟩ = some (.int .u8 (k1.toNat : Int)) := hB2.cell 1 (by simp)
  have c2 : w2.cell? ⟨w.heap.size + 1, 2, none⟩ = some (.int .u8 (k2.toNat : Int)) := hB2.cell 2 (by simp)
  have c3 : w2.cell? ⟨w.heap.size + 1, 3, none⟩ = some (.int .u8 (k3.toNat : Int)) := hB2.cell 3 (by simp)
  have c4 : w2.cell? ⟨w.heap.size + 1, 4, none⟩ = some (.int .u8 (k4.toNat : Int)) := hB2.cell 4 (by simp)
  have c5 : w2.cell? ⟨w.heap.size + 1, 5, none⟩ = some (.int .u8 (k5.toNat : Int)) := hB2.cell 5 (by simp)
  have c6 : w2.cell? ⟨w.heap.size + 1, 6, none⟩ = some (.int .u8 (k6.toNat : Int)) := hB2.cell 6 (by simp)
  have c7 : w2.cell? ⟨w.heap.size + 1, 7, none⟩ = some (.int .u8 (k7.toNat : Int)) := hB2.cell 7 (by simp)
  have c8 : w2.cell? ⟨w.heap.size + 1, 8, none⟩ = some (.int .u8 (k8.toNat : Int)) := hB2.cell 8 (by simp)
  have c9 : w2.cell? ⟨w.heap.size + 1, 9, none⟩ = some (.int .u8 (k9.toNat : Int)) := hB2.cell 9 (by simp)
  have c10 : w2.cell? ⟨w.heap.size + 1, 10, none⟩ = some (.int .u8 (k10.toNat : Int)) := hB2.cell 10 (by simp)
  have c11 : w2.cell? ⟨w.heap.size + 1, 11, none⟩ = some (.int .u8 (k11.toNat : Int)) := hB2.cell 11 (by simp)
  have c12 : w2.cell? ⟨w.heap.size + 1, 12, none⟩ = some (.int .u8 (k12.toNat : Int)) := hB2.cell 12 (by simp)
  have c13 : w2.cell? ⟨w.heap.size + 1, 13, none⟩ = some (.int .u8 (k13.toNat : Int)) := hB2.cell 13 (by simp)
  have c14 : w2.cell? ⟨w.heap.size + 1, 14, none⟩ = some (.int .u8 (k14.toNat : Int)) := hB2.cell 14 (by simp)
  have c15 : w2.cell? ⟨w.heap.size + 1, 15, none⟩ = some (.int .u8 (k15.toNat : Int)) := hB2.cell 15 (by simp)
  have z0 : w2.cell? ⟨w.heap.size, 0, none⟩ = some (.int .u8 0) := hR2.cell 0 (by simp)
  have f0 := hR2.free 0
  have z1 : w2.cell? ⟨w.heap.size, 1, none⟩ = some (.int .u8 0) := hR2.cell 1 (by simp)
  have f1 := hR2.free 1
  have z2 : w2.cell? ⟨w.heap.size, 2, none⟩ = some (.int .u8 0) := hR2.cell 2 (by simp)
  have f2 := hR2.free 2
  have z3 : w2.cell? ⟨w.heap.size, 3, none⟩ = some (.int .u8 0) := hR2.cell 3 (by simp)
  have f3 := hR2.free 3
  have z4 : w2.cell? ⟨w.heap.size, 4, none⟩ = some (.int .u8 0) := hR2.cell 4 (by simp)
  have f4 := hR2.free 4
  have z5 : w2.cell? ⟨w.heap.size, 5, none⟩ = some (.int .u8 0) := hR2.cell 5 (by simp)
  have f5 := hR2.free 5
  have z6 : w2.cell? ⟨w.heap.size, 6, none⟩ = some (.int .u8 0) := hR2.cell 6 (by simp)
  have f6 := hR2.free 6
  have z7 : w2.cell? ⟨w.heap.size, 7, none⟩ = some (.int .u8 0) := hR2.cell 7 (by simp)
  have f7 := hR2.free 7
  have z8 : w2.cell? ⟨w.heap.size, 8, none⟩ = some (.int .u8 0) := hR2.cell 8 (by simp)
  have f8 := hR2.free 8
  have z9 : w2.cell? ⟨w.heap.size, 9, none⟩ = some (.int .u8 0) := hR2.cell 9 (by simp)
  have f9 := hR2.free 9
  have z10 : w2.cell? ⟨w.heap.size, 10, none⟩ = some (.int .u8 0) := hR2.cell 10 (by simp)
  have f10 := hR2.free 10
  have z11 : w2.cell? ⟨w.heap.size, 11, none⟩ = some (.int .u8 0) := hR2.cell 11 (by simp)
  have f11 := hR2.free 11
  have z12 : w2.cell? ⟨w.heap.size, 12, none⟩ = some (.int .u8 0) := hR2.cell 12 (by simp)
  have f12 := hR2.free 12
  have z13 : w2.cell? ⟨w.heap.size, 13, none⟩ = some (.int .u8 0) := hR2.cell 13 (by simp)
  have f13 := hR2.free 13
  have z14 : w2.cell? ⟨w.heap.size, 14, none⟩ = some (.int .u8 0) := hR2.cell 14 (by simp)
  have f14 := hR2.free 14
  have z15 : w2.cell? ⟨w.heap.size, 15, none⟩ = some (.int .u8 0) := hR2.cell 15 (by simp)
  have f15 := hR2.free 15
  clear hB2 hR2
  replace hb := Lib.hid hb
  go_enter Tryd.func9, Tryd.ntmps9
  go_wp2
  (try simp only [Exit.inBlock, Exit.then])
  refine bodyPost_ret (v := .agg #[u8V k0, u8V k1, u8V k2, u8V k3, u8V k4, u8V k5, u8V k6, u8V k7, u8V k8, u8V k9, u8V k10, u8V k11, u8V k12, u8V k13, u8V k14, u8V k15]) ?_ rfl ⟨by rw [hk]; rfl, ?_⟩
  · rw [results_cell rfl]; go_simp; exact ⟨rfl, rfl, rfl, rfl, rfl, rfl, rfl, rfl, rfl, rfl, rfl, rfl, rfl, rfl, rfl, rfl⟩
  · (repeat' (first | with_reducible exact hb.out | with_reducible refine Below.setCell ?_ (by first | (simp; done) | (simp; omega)) _))
end Go.Proofs.YtiamkhhnnlgemaaDoor.Sip
