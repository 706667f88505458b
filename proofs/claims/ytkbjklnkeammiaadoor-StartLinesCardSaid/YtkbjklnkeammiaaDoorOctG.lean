import Derived.Test.YtkbjklnkeammiaaDoorOctF
import Derived.RangeFuncBox
import Derived.RangeFuncLeaves
import Derived.RangeFuncCalls
import Derived.RangeFuncWrites
import Derived.Shelf.Abstract
import Derived.OwnWalkIn
import Derived.TacticsInMore
import Derived.LoopNIn
import Derived.LoopIn
import Derived.Maps.AppendAt
namespace Go.Proofs.YtkbjklnkeammiaaDoor.Oct
open Go.RowKit Go.Shelf
set_option linter.unusedVariables false
attribute [local go_sem] Oper.semAt_some

/-! ### A loop over an iterator that turns a box of its own, and a body that never leaves -/
/-- These blocks lie as they lay. -/
def KeepB (S : List Nat) (W W' : World) : Prop := ∀ b, b ∈ S → W'.heap[b]? = W.heap[b]?
theorem KeepB.trans {S : List Nat} {A B C : World} (h : KeepB S A B) (k : KeepB S B C) : KeepB S A C := fun b hb => (k b hb).trans (h b hb)
theorem KeepB.putObj {S : List Nat} (W : World) (l : Nat) (o : Obj) (h : ∀ b ∈ S, b ≠ l) : KeepB S W (W.putObj l o) := fun b hb => World.putObj_heap_other (h b hb)
theorem KeepB.cell {S : List Nat} {A B : World} (h : KeepB S A B) (b : Nat) (hb : b ∈ S) (o : Nat) : B.cell? ⟨b, o, none⟩ = A.cell? ⟨b, o, none⟩ := World.cell?_of_block (h b hb)
theorem KeepB.free {S : List Nat} {A B : World} (h : KeepB S A B) (b : Nat) (hb : b ∈ S) (o : Nat) : B.frozen? ⟨b, o, none⟩ = A.frozen? ⟨b, o, none⟩ := World.frozen?_of_block (h b hb)
/-- What an invariant of the caller's abides: the iterator's stores into its box. -/
def Boxy {α : Type} (Bs : Nat) (J : List α → World → Prop) : Prop := ∀ pre W v, J pre W → J pre (W.setCell ⟨Bs, 0, none⟩ v)
/-- The iterator gives all of xs, to whatever body that keeps the blocks S. -/
def Gives {α : Type} (F : Fence) (n : Nat) (P : Program) (gf : Nat) (lb : Array Value) (encs : α → Array Value) (S : List Nat) (Bs : Nat) (xs : List α) (w : World) : Prop :=
  ∀ (l : Nat) (J : List α → World → Prop) (W : World), Below w.heap.size w W → Boxy Bs J →
    (∀ pre x r W1, J pre W1 → xs = pre ++ x :: r → YieldAt F (n - 1) P l (encs x) W1 fun e W' => e = .returned (.bool true) ∧ J (pre ++ [x]) W' ∧ KeepB S W1 W') →
    J [] W → CallsIn F n P gf (#[.func (.yield l) #[] #[]] ++ lb) W fun e W' => (∃ v, e = .returned v) ∧ J xs W'

variable {F : Fence} {n : Nat} {P : Program}
theorem range_box {α : Type} {g : Operand} {ps : Array Tmp} {assign body : Code} {Q : Exit → Act → World → Prop} {a : Act} {w : World}
    (hro : F.round = none) (h1 : 1 ≤ n) {gf : Nat} {lb : Array Value} (hg : a.eval g = .func (.func gf) #[] lb) (hFg : F.fn gf) (eg : ∀ args w, (callFunc gf args).run P w = .ok (.enter gf args) w)
    {encs : α → Array Value} {S : List Nat} {Bs : Nat} {xs : List α} (hseq : Gives F (n - 1) P gf lb encs S Bs xs w)
    (hS : ∀ b ∈ S, b < w.heap.size) (hBs : Bs < w.heap.size) (hps : ∀ x, (encs x).size = ps.size)
    (I : List α → World → Prop) (hI : OwnFrom w.heap.size I) (hIB : Boxy Bs I) (h0 : I [] w) (a₁ : α → Act)
    (hassign : ∀ (l : Nat) (x : α) (W : World) (K : Act → World → Prop), K (a₁ x) W →
      assign.wpIn (F.inRound l) (n - 1 - 1) P (Exit.then K (fun _ _ _ => False)) { tmps := (ps.zip (encs x)).foldl (fun t (p, v) => t.setIfInBounds p v) a.tmps, defers := [] } W)
    (hbody : ∀ (l : Nat) (pre : List α) (x : α) (r : List α) (W : World), xs = pre ++ x :: r → I pre W → w.heap.size ≤ W.heap.size →
      body.wpIn (F.inRound l) (n - 1 - 1) P (Exit.then (fun _ W' => KeepsFrom w.heap.size W W' ∧ KeepB S W W' ∧ I (pre ++ [x]) W') (fun _ _ _ => False)) (a₁ x) W)
    (hdone : ∀ (D : Nat) (W : World), w.heap.size ≤ D → I xs W → W.heap[D]? = some (.deferred (some [])) → Q .normal { a with defers := { target := .collected D, args := #[] } :: a.defers } W) :
    (Code.rangeFunc g ps assign body).wpIn F n P Q a w := by
  refine wpIn_rangeFunc fun fn hfn => ?_
  rw [hro]
  generalize hrec : (fun (st : LoopState) (pe : Option Code) => ({ state := st, pending := pe, fn, tmps := a.tmps, params := ps, assign, body, defers := w.heap.size } : Loop)) = rec
  have hr0 : ∀ st pe, rec st pe = { state := st, pending := pe, fn, tmps := a.tmps, params := ps, assign, body, defers := w.heap.size } := fun st pe => by rw [← hrec]
  have hent := run_enterLoop_outer (P := P) (w := w) fn a.tmps ps assign body
  rw [← hr0 .ready none] at hent
  have hL1 : ((w.alloc (.deferred (some []))).alloc (.loop (rec .ready none))).heap[w.heap.size + 1]? = some (.loop (rec .ready none)) := by
    have := World.alloc_heap_new (w.alloc (.deferred (some []))) (.loop (rec .ready none)); rwa [World.size_alloc] at this
  have hK1 : ((w.alloc (.deferred (some []))).alloc (.loop (rec .ready none))).heap[w.heap.size]? = some (.deferred (some [])) :=
    (Below.heap_alloc _ _ _ (by simp)).trans (World.alloc_heap_new w _)
  have hI1 : I [] ((w.alloc (.deferred (some []))).alloc (.loop (rec .ready none))) := hI.alloc _ (hI.alloc _ h0)
  have hb1 : Below w.heap.size w ((w.alloc (.deferred (some []))).alloc (.loop (rec .ready none))) := ((Below.refl _ w).alloc (Nat.le_refl _) _).alloc (by simp) _
  generalize (w.alloc (.deferred (some []))).alloc (.loop (rec .ready none)) = W1 at *
  have hne : ∀ b ∈ S, b ≠ w.heap.size + 1 := fun b hb => by have := hS b hb; omega
  refine ⟨w.heap.size + 1, [{ target := .collected w.heap.size, args := #[] }], W1, { target := .fn (.func gf) lb, args := #[.func (.yield (w.heap.size + 1)) #[] #[]] }, W1, gf,
    #[.func (.yield (w.heap.size + 1)) #[] #[]] ++ lb, W1, hent, ?_, ?_, ?_, fun _ => h1, ?_⟩
  · simp only [resolve, hg]
    simp [go_sem]
  · intro f' hf'; simp [Target.leads] at hf'; subst hf'; exact hFg
  · simp [invoke, go_sem, eg]
  · refine (hseq (w.heap.size + 1)
      (fun pre W => I pre W ∧ W.heap[w.heap.size + 1]? = some (.loop (rec .ready none)) ∧ W.heap[w.heap.size]? = some (.deferred (some [])))
      W1 hb1 (fun pre W v h => ⟨hIB _ _ _ h.1, (Below.heap_setCell _ _ _ _ (by simp; omega)).trans h.2.1, (Below.heap_setCell _ _ _ _ (by simp; omega)).trans h.2.2⟩)
      ?_ ⟨hI1, hL1, hK1⟩).mono ?_
    · rintro pre x r W ⟨hi, hl, hk⟩ hx
      have hlt : w.heap.size + 1 < W.heap.size := (Array.getElem?_eq_some_iff.1 hl).1
      have hy := run_yield (P := P) (args := encs x) hl (by rw [hr0]; exact hps x)
      simp only [hr0] at hy
      refine ⟨fn, _, assign, body, hy, roundIn_of_wpIn hfn (hassign _ x W _ ⟨_, run_beginRound hl (by rw [hr0]), ?_⟩)⟩
      generalize hW2 : W.putObj (w.heap.size + 1) (.loop { rec .ready none with state := .busy }) = W2
      have hl2 : W2.heap[w.heap.size + 1]? = some (.loop { rec .ready none with state := .busy }) := by rw [← hW2]; exact World.putObj_heap_same hlt
      have hk2 : W2.heap[w.heap.size]? = some (.deferred (some [])) := by rw [← hW2]; exact (World.putObj_heap_other (by omega)).trans hk
      have hi2 : I pre W2 := by rw [← hW2]; exact hI.putObj _ hi (by omega) hl rfl
      have hs2 : KeepB S W W2 := by rw [← hW2]; exact KeepB.putObj _ _ _ hne
      have hz2 : w.heap.size ≤ W2.heap.size := by have := (Array.getElem?_eq_some_iff.1 hl2).1; omega
      refine wpIn_mono (hbody _ pre x r W2 hx hi2 hz2) ?_
      rintro e a3 W3 hp
      cases e with
      | normal =>
        obtain ⟨hk3, hkp3, hi3⟩ := hp
        have hl3 := hk3.same _ _ (by omega) hl2 rfl
        have hen := run_endRound (P := P) none hl3
        refine ⟨_, _, hen, rfl, ⟨hI.putObj _ hi3 (by omega) hl3 rfl, ?_, ?_⟩, (hs2.trans hkp3).trans (KeepB.putObj _ _ _ hne)⟩
        · rw [World.putObj_heap_same (Array.getElem?_eq_some_iff.1 hl3).1]
          simp only [hr0]
          rfl
        · exact (World.putObj_heap_other (by omega)).trans (hk3.same _ _ (Nat.le_refl _) hk2 rfl)
      | ret => exact hp.elim
      | exit id => exact hp.elim
      | goto t => exact hp.elim
      | panic ch => exact hp.elim
      | outgrown => exact hp.elim
    · rintro e W2 ⟨⟨v, rfl⟩, hi, hl, hk⟩
      have hen := run_endLoop (P := P) hl (by rw [hr0]; simp)
      simp only [hr0] at hen hl
      exact ⟨none, _, hen, hdone _ _ (Nat.le_refl _) (hI.putObj _ hi (by omega) hl rfl) ((World.putObj_heap_other (by omega)).trans hk)⟩

/-! ### strings.SplitSeq at a comma -/
def parts : List UInt8 → List (List UInt8)
  | [] => [[]]
  | x :: r => if x = 44 then [] :: parts r else match parts r with | [] => [[x]] | p :: q => (x :: p) :: q
theorem parts_cons (x : UInt8) (r : List UInt8) : parts (x :: r) = if x = 44 then [] :: parts r else match parts r with | [] => [[x]] | p :: q => (x :: p) :: q := by rw [parts]
theorem ix_ge (l : List UInt8) (c : UInt8) : -1 ≤ Lib.indexByte l c := by
  induction l with
  | nil => simp [Lib.indexByte]
  | cons x r ih => unfold Lib.indexByte; split <;> (try split) <;> omega
theorem ix_cons (x : UInt8) (r : List UInt8) : Lib.indexByte (x :: r) 44 = if x = 44 then 0 else if Lib.indexByte r 44 < 0 then -1 else Lib.indexByte r 44 + 1 := by
  have h := ix_ge r 44
  rw [Lib.indexByte]
  by_cases hx : x = 44
  · simp [hx]
  · have h1 : (x == 44) = false := by simpa using hx
    rw [h1, if_neg hx, if_neg (by decide)]
    by_cases h2 : Lib.indexByte r 44 = -1
    · rw [if_pos (by rw [h2]; rfl), if_pos (by omega)]
    · rw [if_neg (by simpa using h2), if_neg (by omega)]
theorem parts_no {l : List UInt8} (h : Lib.indexByte l 44 < 0) : parts l = [l] := by
  induction l with
  | nil => rfl
  | cons x r ih =>
    rw [ix_cons] at h
    by_cases hx : x = 44
    · rw [if_pos hx] at h; omega
    · rw [if_neg hx] at h
      have hr : Lib.indexByte r 44 < 0 := by
        rcases Int.lt_or_le (Lib.indexByte r 44) 0 with h2 | h2
        · exact h2
        · rw [if_neg (by omega)] at h; omega
      rw [parts_cons, if_neg hx, ih hr]
theorem parts_at {l : List UInt8} {i : Nat} (h : Lib.indexByte l 44 = i) : i < l.length ∧ parts l = l.take i :: parts (l.drop (i + 1)) := by
  induction l generalizing i with
  | nil => have : Lib.indexByte [] 44 = -1 := by decide
           omega
  | cons x r ih =>
    rw [ix_cons] at h
    by_cases hx : x = 44
    · rw [if_pos hx] at h
      obtain rfl : i = 0 := by omega
      rw [parts_cons, if_pos hx]
      simp
    · rw [if_neg hx] at h
      rcases Int.lt_or_le (Lib.indexByte r 44) 0 with h2 | h2
      · rw [if_pos h2] at h; omega
      · rw [if_neg (by omega)] at h
        obtain ⟨j, rfl⟩ : ∃ j, i = j + 1 := ⟨i - 1, by omega⟩
        obtain ⟨h3, h4⟩ := ih (i := j) (by omega)
        refine ⟨by simp; omega, ?_⟩
        rw [parts_cons, if_neg hx, h4]
        simp
/-- The size of the text in a box. -/
def szAt (b : Nat) (w : World) : Nat := match w.cell? ⟨b, 0, none⟩ with | some (.string t) => t.size | _ => 0
theorem szAt_eq {b : Nat} {w : World} {t : ByteArray} (h : w.cell? ⟨b, 0, none⟩ = some (.string t)) : szAt b w = t.size := by unfold szAt; rw [h]
theorem ba_mk (t : ByteArray) : (⟨t.data.toList.toArray⟩ : ByteArray) = t := by cases t; rfl
theorem ba_take (t : ByteArray) (i : Nat) : t.extract 0 i = ⟨(t.data.toList.take i).toArray⟩ := by
  apply Go.WideShapes.bytes_inj
  rw [Lib.extract_from_zero]
theorem ba_drop (t : ByteArray) (i : Nat) : t.extract i t.size = ⟨(t.data.toList.drop i).toArray⟩ := by
  apply Go.WideShapes.bytes_inj
  rw [Lib.extract_to_end]

def encS (x : List UInt8) : Array Value := #[.string ⟨x.toArray⟩]

set_option maxRecDepth 100000 in
set_option maxHeartbeats 1000000 in
theorem split_iter (n : Nat) (B0 Bs B2 : Nat) (h01 : B0 ≠ Bs) (h12 : Bs ≠ B2) (s : ByteArray) (hs : s.size ≤ maxLen) (w : World)
    (c0 : w.cell? ⟨B0, 0, none⟩ = some (.string ⟨#[44]⟩)) (c1 : w.cell? ⟨Bs, 0, none⟩ = some (.string s)) (c2 : w.cell? ⟨B2, 0, none⟩ = some (.int .i64 0)) (f1 : w.frozen? ⟨Bs, 0, none⟩ = false) :
    Gives Fence.wide n Tryd.prog 115 #[.pointer (some ⟨B0, 0, none⟩), .pointer (some ⟨Bs, 0, none⟩), .pointer (some ⟨B2, 0, none⟩)] encS [B0, Bs, B2] Bs (parts s.data.toList) w := by
  intro l J W hW hBx hY h0
  have l0 := World.block_lt_of_cell? _ _ c0
  have l1 := World.block_lt_of_cell? _ _ c1
  have l2 := World.block_lt_of_cell? _ _ c2
  have d0 := (hW.cell (p := ⟨B0, 0, none⟩) l0).trans c0
  have d1 := (hW.cell (p := ⟨Bs, 0, none⟩) l1).trans c1
  have d2 := (hW.cell (p := ⟨B2, 0, none⟩) l2).trans c2
  have g1 := (hW.frozen (p := ⟨Bs, 0, none⟩) l1).trans f1
  clear c0 c1 c2 f1 hW l0 l1 l2
  refine callsIn_of_wp Tryd.func115 rfl trivial ?_ rfl
  simp only [Tryd.ntmps115, List.size_toArray, List.length_cons, List.length_nil, Nat.reduceAdd, Nat.reduceSub, Array.replicate_succ, Array.replicate_zero, List.push_toArray, List.append_toArray, List.nil_append, List.cons_append]
  gi_wp2_with fail
  gi_loopw [7] (fun v wr => ∃ (pre : List (List UInt8)) (t : ByteArray), parts s.data.toList = pre ++ parts t.data.toList ∧ t.size ≤ maxLen ∧ wr.cell? ⟨B0, 0, none⟩ = some (.string ⟨#[44]⟩) ∧ wr.cell? ⟨Bs, 0, none⟩ = some (.string t) ∧ wr.cell? ⟨B2, 0, none⟩ = some (.int .i64 0) ∧ wr.frozen? ⟨Bs, 0, none⟩ = false ∧ J pre wr) (fun _ wr => szAt Bs wr)
  case atStart => exact ⟨[], s, by simp, hs, d0, d1, d2, g1, h0⟩
  case round =>
    obtain ⟨pre, t, hp, ht, d0, d1, d2, g1, hJ⟩ := hrel
    unfold maxLen at ht
    have hsz := szAt_eq d1
    rcases Int.lt_or_le (Lib.indexByte t.data.toList 44) 0 with hi | hi
    · rw [parts_no hi] at hp
      obtain ⟨fn, tmps, assign, body, hy, hR⟩ := hY pre _ _ wr hJ hp
      rw [encS, ba_mk] at hy
      have HP := Lib.hid hp
      clear hp
      gi_wp2_with (refine ⟨trivial, fun h => absurd h (by decide), ?_⟩; gi_at_call 117; refine (callsIn_wide.2 (Tryd.strings_Index_one _ _ _)).mono ?_; rintro e w' ⟨rfl, rfl⟩)
      refine ⟨fun h => absurd h (by decide), hR.mono ?_⟩
      rintro e W3 ⟨rfl, hJ3, hk3⟩
      gi_wp2
      go_end0
      exact ⟨⟨_, rfl⟩, by rw [HP.out]; exact hJ3⟩
    · obtain ⟨i, hi2⟩ := Int.eq_ofNat_of_zero_le hi
      obtain ⟨h3, h4⟩ := parts_at hi2
      rw [h4] at hp
      obtain ⟨fn, tmps, assign, body, hy, hR⟩ := hY pre _ _ wr hJ hp
      rw [encS, ← ba_take] at hy
      have HP := Lib.hid hp
      have h3' : i < t.size := by simpa using h3
      clear hp h4 hi h3
      gi_wp2_with (refine ⟨trivial, fun h => absurd h (by decide), ?_⟩; gi_at_call 117; refine (callsIn_wide.2 (Tryd.strings_Index_one _ _ _)).mono ?_; rintro e w' ⟨rfl, rfl⟩)
      refine ⟨fun h => absurd h (by decide), hR.mono ?_⟩
      rintro e W3 ⟨rfl, hJ3, hk3⟩
      have e0 := (hk3.cell B0 (by simp) 0).trans d0
      have e1 := (hk3.cell Bs (by simp) 0).trans d1
      have e2 := (hk3.cell B2 (by simp) 0).trans d2
      have ef := (hk3.free Bs (by simp) 0).trans g1
      gi_wp2
      have c1 : (W3.setCell ⟨Bs, 0, none⟩ (.string (t.extract (i + 1) t.size))).cell? ⟨Bs, 0, none⟩ = some (.string (t.extract (i + 1) t.size)) := World.cell?_setCell_same _ _ _ e1
      go_roundw
      case rel => exact ⟨pre ++ [t.data.toList.take i], t.extract (i + 1) t.size, by rw [HP.out, ba_drop]; simp, by unfold maxLen; simp; omega, by rw [World.cell?_setCell_other _ _ _ _ (by simp)]; exact e0, c1, by rw [World.cell?_setCell_other _ _ _ _ (by simp)]; exact e2, by simp; exact ef, hBx _ _ _ hJ3⟩
      case measure => rw [szAt_eq c1, hsz]; simp; omega

set_option maxRecDepth 100000 in
set_option maxHeartbeats 1000000 in
theorem splitSeq_any (s : ByteArray) (w : World) :
    Calls Tryd.prog 67 #[.string s, .string ⟨#[44]⟩] w fun e w' => e = .returned (.func (.func 115) #[] #[.pointer (some ⟨w.heap.size + 1, 0, none⟩), .pointer (some ⟨w.heap.size, 0, none⟩), .pointer (some ⟨w.heap.size + 2, 0, none⟩)]) ∧ w' = ((w.alloc (.cells #[.string s] 9)).alloc (.cells #[.string ⟨#[44]⟩] 9)).alloc (.cells #[.int .i64 0] 3) := by
  go_enter Tryd.func67, Tryd.ntmps67
  go_wp2
  go_ret
  exact ⟨rfl, rfl⟩
end Go.Proofs.YtkbjklnkeammiaaDoor.Oct
