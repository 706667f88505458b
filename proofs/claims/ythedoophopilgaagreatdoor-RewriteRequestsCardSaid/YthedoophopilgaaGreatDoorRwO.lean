/- Octet and Start: what the rewrite texts need (printed by genO.py). -/
import Derived.Test.YthedoophopilgaaGreatDoorProg
import Derived.Test.YthedoophopilgaaGreatDoorShelf
import Derived.WalkKit
import Derived.WalkSpells
import Derived.WalkLawsBesides
import Derived.Lib.Hide
import Derived.Shelf.Strings.SlTrimAscii
import Derived.Laws.IdiomStrings
import Derived.Lib.ConvBytes
import Derived.Deep.Cut
import Derived.Lib.LaidTab
import Derived.Laws.BitsLemmas
import Derived.RangeFuncBox
import Derived.RangeFuncLeaves
import Derived.RangeFuncCalls
import Derived.RangeFuncWrites
import Derived.Shelf.Abstract
import Derived.OwnWalkIn
import Derived.TacticsInMore
import Derived.LoopNIn
import Derived.LoopIn
import Derived.Maps.AppendAt
import Derived.OwnWalk
import Derived.BigQuiet
import Derived.Deep.QuietTactic
import Derived.Laws.ResultCell
import Derived.OpenShut
import Derived.ChangeSame
import Derived.Lib.LaidTab
namespace Go.Proofs.YthedoophopilgaaGreatDoor.Oct
open Go.RowKit Go.Shelf Go.ChangeShapes
set_option linter.unusedVariables false
variable {F : Fence} {n : Nat} {P : Program}
theorem ret_bool {a b : Bool} (h : a = b) : Ending.returned (.bool a) = .returned (.bool b) := by rw [h]
theorem ret_str {a b : ByteArray} (h : a = b) : Ending.returned (.string a) = .returned (.string b) := by rw [h]
theorem take_snoc (s : ByteArray) (k : Nat) (h : k < s.size) : s.data.toList.take (k + 1) = s.data.toList.take k ++ [s[k]] := by
  rw [List.take_succ_eq_append_getElem (by simpa using h)]; rfl
theorem nil_sz (s : ByteArray) : s.toList = [] ↔ s.size = 0 := by
  rw [Lib.toList_data, ← List.length_eq_zero_iff]; simp
theorem isEmpty_sz (s : ByteArray) : s.toList.isEmpty = decide (s.size = 0) := by
  rw [Bool.eq_iff_iff, List.isEmpty_iff, nil_sz]; simp
/-- Without blanks about it. -/
def trimL (l : List UInt8) : List UInt8 := Lib.trimS l [32, 9]
def trimS (s : ByteArray) : ByteArray := ⟨(trimL s.data.toList).toArray⟩
theorem asciiSet_info : (Tryz.prog.info? (Tryz.lays160_ren.t 116)).map (fun i => (i.zero, i.size)) = some (some (.agg (Array.replicate 256 (.bool false))), 256) := by kernel_rfl
theorem strings_trim (s : ByteArray) (hs : s.size ≤ maxLen) (w : World) :
    Calls Tryz.prog 64 #[.string s, .string ⟨#[32, 9]⟩] w fun e w' => e = .returned (.string (trimS s)) ∧ Below w.heap.size w w' :=
  Any.strings_Trim_laid Tryz.lays160 asciiSet_info s ⟨#[32, 9]⟩ w hs (by decide) (ascii_of_all (by decide))
theorem bcell {W w1 : World} (hb : Below W.heap.size W w1) : (∀ b o, b < W.heap.size → w1.cell? ⟨b, o, none⟩ = W.cell? ⟨b, o, none⟩) ∧ (∀ b o, b < W.heap.size → w1.frozen? ⟨b, o, none⟩ = W.frozen? ⟨b, o, none⟩) :=
  ⟨fun b o h => hb.cell (p := ⟨b, o, none⟩) h, fun b o h => hb.frozen (p := ⟨b, o, none⟩) h⟩
set_option maxHeartbeats 400000 in
theorem trim_any (s : ByteArray) (hs : s.size ≤ maxLen) (w : World) :
    Calls Tryz.prog 56 #[.string s] w fun e w' => e = .returned (.string (trimS s)) ∧ Below w.heap.size w w' := by
  go_enter Tryz.func56, Tryz.ntmps56
  go_wp2_with (go_at_call 64; refine (strings_trim _ hs _).mono ?_; rintro e w1 ⟨rfl, hb⟩)
  go_ret
  exact ⟨rfl, hb⟩
theorem str_eq (a b : ByteArray) : (a.toList == b.toList) = decide (a = b) := by
  rw [Lib.toList_data, Lib.toList_data, Bool.eq_iff_iff, beq_iff_eq, decide_eq_true_iff]
  exact ⟨Go.WideShapes.bytes_inj, fun h => by rw [h]⟩
/-! ### A row of bytes in a block -/
def bcells (l : List UInt8) (sp : Nat) : Array Value := (l.map fun b => Value.int .u8 (b.toNat : Int)).toArray ++ Array.replicate sp (.int .u8 0)
theorem bcells_size (l : List UInt8) (sp : Nat) : (bcells l sp).size = l.length + sp := by simp [bcells]
theorem bcells_get {l : List UInt8} {sp k : Nat} (h : k < l.length) : (bcells l sp)[k]? = some (.int .u8 ((l[k]).toNat : Int)) := by
  rw [bcells, Array.getElem?_append_left (by simpa using h)]
  simp [List.getElem?_eq_getElem h]
theorem bcells_set {l : List UInt8} {sp k : Nat} (h : k < l.length) (b : UInt8) : (bcells l sp).setIfInBounds k (.int .u8 (b.toNat : Int)) = bcells (l.set k b) sp := by
  apply Array.ext_getElem?
  intro i
  rw [Array.getElem?_setIfInBounds]
  by_cases hi : k = i
  · subst hi
    rw [if_pos rfl, if_pos (by rw [bcells_size]; omega), bcells_get (by simpa using h)]
    simp
  · rw [if_neg hi]
    unfold bcells
    rw [Array.getElem?_append, Array.getElem?_append]
    simp only [List.size_toArray, List.length_map, List.length_set]
    split
    · simp [hi]
    · rfl
/-- Block g is a row of bytes (with spare zeros), by a string's conversion made. -/
def BRow (w : World) (g : Nat) (l : List UInt8) (sp : Nat) : Prop := w.heap[g]? = some (.cells (bcells l sp) 5 (l.length + sp, l.length + sp + 1))
theorem BRow.lt {w : World} {g : Nat} {l : List UInt8} {sp : Nat} (h : BRow w g l sp) : g < w.heap.size := (Array.getElem?_eq_some_iff.1 h).1
theorem BRow.cell {w : World} {g : Nat} {l : List UInt8} {sp k : Nat} (h : BRow w g l sp) (hk : k < l.length) : w.cell? ⟨g, k, none⟩ = some (.int .u8 ((l[k]).toNat : Int)) := by
  have h' : w.heap[g]? = _ := h
  simp only [World.cell?, h', Option.isSome_none, Bool.false_eq_true, if_false]
  exact bcells_get hk
theorem BRow.free {w : World} {g : Nat} {l : List UInt8} {sp k : Nat} (h : BRow w g l sp) (hk : k < l.length) : w.frozen? ⟨g, k, none⟩ = false := by
  have h' : w.heap[g]? = _ := h
  simp only [World.frozen?, h']
  simp; omega
theorem BRow.set {w : World} {g : Nat} {l : List UInt8} {sp k : Nat} (h : BRow w g l sp) (hk : k < l.length) (b : UInt8) : BRow (w.setCell ⟨g, k, none⟩ (.int .u8 (b.toNat : Int))) g (l.set k b) sp := by
  have h' : w.heap[g]? = _ := h
  show ((w.setCell ⟨g, k, none⟩ (.int .u8 (b.toNat : Int))).heap)[g]? = _
  simp only [World.setCell, Array.getElem?_modify, if_true, h', Option.map_some, Option.isSome_none, Bool.false_eq_true, if_false, List.length_set]
  rw [bcells_set hk]
theorem conv_bytes {P : Program} (w : World) (src dst : TypeId) (s : ByteArray) (hs : P.underlying src = some .string) (hd : P.underlying dst = some (.slice 5)) (he : P.underlying 5 = some (.int .u8)) :
    ∃ (W1 : World) (sp : Nat), (convert src dst (.string s)).run P w = .ok (.slice (some ⟨w.heap.size, 0, none⟩) s.size (s.size + sp)) W1 ∧ BRow W1 w.heap.size s.data.toList sp ∧ Below w.heap.size w W1 := by
  have hc := grownCap_ge w s.size 0 5
  refine ⟨Lib.bytesWorld w 5 s, grownCap w s.size 0 5 - s.size, ?_, ?_, ?_⟩
  · rw [Lib.run_convert_string_bytes w src dst 5 s hs hd he]
    congr 2
    omega
  · have e : Lib.bytesCells w 5 s = bcells s.data.toList (grownCap w s.size 0 5 - s.size) := by
      simp [Lib.bytesCells, bcells, ← Array.toList_map]
    show (Lib.bytesWorld w 5 s).heap[w.heap.size]? = _
    rw [Lib.bytesWorld_at_new, e, bcells_size]
  · refine ⟨rfl, rfl, rfl, by rw [Lib.bytesWorld_size]; omega, fun k hk => Lib.bytesWorld_at_old w _ s k hk⟩
theorem conv_back {P : Program} {w : World} {g : Nat} {l : List UInt8} {sp : Nat} (h : BRow w g l sp) (src dst : TypeId) (hs : P.underlying src = some (.slice 5)) (he : P.underlying 5 = some (.int .u8)) (hd : P.underlying dst = some .string) (c : Nat) :
    (convert src dst (.slice (some ⟨g, 0, none⟩) l.length c)).run P w = .ok (.string ⟨l.toArray⟩) w :=
  run_convert_bytes_back w src dst 5 ⟨g, 0, none⟩ c l hs he hd (fun j hj => by
    have := h.cell hj
    by_cases h0 : j = 0
    · subst h0; simpa [Addr.add] using this
    · simpa [Addr.add, h0] using this)
/-- A letter in small. -/
def lowerB (b : UInt8) : UInt8 := if 65 ≤ b ∧ b ≤ 90 then b + 32 else b
def lowerL (l : List UInt8) : List UInt8 := l.map lowerB
def lowerS (s : ByteArray) : ByteArray := ⟨(lowerL s.data.toList).toArray⟩
theorem low_step (l : List UInt8) (k : Nat) (h : k < l.length) : ((lowerL (l.take k)) ++ l.drop k).set k (lowerB l[k]) = lowerL (l.take (k + 1)) ++ l.drop (k + 1) := by
  have hl : (lowerL (l.take k)).length = k := by simp [lowerL]; omega
  rw [List.set_append_right _ _ (by omega), hl, Nat.sub_self, List.drop_eq_getElem_cons h, List.set_cons_zero, List.take_succ_eq_append_getElem h]
  simp only [lowerL, List.map_append, List.map_cons, List.map_nil, List.append_assoc, List.cons_append, List.nil_append]
theorem low_get (l : List UInt8) (k : Nat) (h : k < l.length) : ∃ h2 : k < (lowerL (l.take k) ++ l.drop k).length, (lowerL (l.take k) ++ l.drop k)[k] = l[k] := by
  have hl : (lowerL (l.take k)).length = k := by simp [lowerL]; omega
  refine ⟨by simp [lowerL]; omega, ?_⟩
  rw [List.getElem_append_right (by omega)]
  simp [hl]
theorem low_same (l : List UInt8) (k : Nat) (h : k < l.length) (x : UInt8) (hx : l[k] = x) (hv : lowerB x = x) : lowerL (l.take k) ++ l.drop k = lowerL (l.take (k + 1)) ++ l.drop (k + 1) := by
  rw [← low_step l k h, hx, hv, ← hx]
  obtain ⟨h2, h3⟩ := low_get l k h
  rw [← h3, List.set_getElem_self]
set_option maxRecDepth 100000 in
set_option maxHeartbeats 400000 in
theorem lower_any (s : ByteArray) (hs : s.size ≤ maxLen) (w : World) :
    Calls Tryz.prog 40 #[.string s] w fun e w' => e = .returned (.string (lowerS s)) ∧ Below w.heap.size w w' := by
  unfold maxLen at hs
  obtain ⟨W1, sp, hconv, hrow, hb⟩ := conv_bytes (P := Tryz.prog) w 9 78 s Tryz.underlying9 Tryz.underlying78 Tryz.underlying5
  have hgz : w.heap.size < W1.heap.size := hrow.lt
  generalize hg : w.heap.size = g at *
  go_enter Tryz.func40, Tryz.ntmps40
  go_wp2_with fail
  go_loopw [10] (fun i wr => ∃ k : Nat, k ≤ s.size ∧ i = .int .i64 k ∧ BRow wr g (lowerL (s.data.toList.take k) ++ s.data.toList.drop k) sp ∧ Below g w wr) (fun i _ => s.size - (intOf i).toNat)
  case atStart => exact ⟨0, Nat.zero_le _, rfl, by simpa [lowerL] using hrow, hb⟩
  case round =>
    obtain ⟨k, hk, rfl, hr, hb2⟩ := hrel
    by_cases hlt : k < s.size
    · have hkl : k < s.data.toList.length := by simpa using hlt
      obtain ⟨h2, hge⟩ := low_get s.data.toList k hkl
      have hcell := hr.cell h2
      have hfree := hr.free h2
      rw [hge] at hcell
      have hst := low_step s.data.toList k hkl
      have HS : ∀ v : Int, v = ((lowerB s.data.toList[k]).toNat : Int) → BRow (‹World›.setCell ⟨g, k, none⟩ (.int .u8 v)) g (lowerL (s.data.toList.take (k + 1)) ++ s.data.toList.drop (k + 1)) sp := by
        rintro v rfl
        have := hr.set h2 (lowerB s.data.toList[k])
        rw [hst] at this
        exact this
      clear hst hge h2
      have H2 := Lib.hid HS
      have HR := Lib.hid hr
      clear HS hr
      generalize hx : s.data.toList[k] = x at *
      have HX := Lib.hid hx
      clear hx
      obtain ⟨n, hn⟩ : ∃ n : Int, (x.toNat : Int) = n := ⟨_, rfl⟩
      have hn2 : n < 256 := by have := x.toNat_lt; omega
      have hn0 : 0 ≤ n := by omega
      rw [hn] at hcell
      have HN := Lib.hid hn
      clear hn
      by_cases c1 : 65 ≤ n ∧ n ≤ 90
      · obtain ⟨c1, c2⟩ := c1
        have hv : ((lowerB x).toNat : Int) = n + 32 := by
          have hn := HN.out
          have h1 : (65 : UInt8) ≤ x ∧ x ≤ 90 := by rw [UInt8.le_iff_toNat_le, UInt8.le_iff_toNat_le]; constructor <;> simp <;> omega
          rw [lowerB, if_pos h1, UInt8.toNat_add]
          simp; omega
        have HV := Lib.hid hv
        clear hv
        go_wp2
        go_roundw
        case rel => exact ⟨k + 1, by omega, by go_num, H2.out _ (by rw [HV.out]; omega), hb2.setCell (Nat.le_refl _) _⟩
        case measure => simp [intOf]; omega
      · have hv : lowerB x = x := by
          have hn := HN.out
          rw [lowerB, if_neg]
          rintro ⟨h1, h2⟩
          rw [UInt8.le_iff_toNat_le] at h1 h2
          simp at h1 h2
          omega
        have hr2 := HR.out
        have hst2 := low_same s.data.toList k (by simpa using hlt) x HX.out hv
        rw [hst2] at hr2
        have HR2 := Lib.hid hr2
        clear hr2 hv hst2
        by_cases c2 : 65 ≤ n
        · have c3 : 90 < n := by omega
          clear c1
          go_wp2
          go_roundw
          case rel => exact ⟨k + 1, by omega, by go_num, HR2.out, hb2⟩
          case measure => simp [intOf]; omega
        · have c3 : n < 65 := by omega
          clear c1 c2
          go_wp2
          go_roundw
          case rel => exact ⟨k + 1, by omega, by go_num, HR2.out, hb2⟩
          case measure => simp [intOf]; omega
    · have hke : k = s.data.toList.length := by simp; omega
      have hr2 : BRow ‹World› g (lowerL s.data.toList) sp := by rw [hke, List.take_length, List.drop_length, List.append_nil] at hr; exact hr
      have hback := conv_back hr2 78 9 Tryz.underlying78 Tryz.underlying5 Tryz.underlying9 (s.size + sp)
      have hll : (lowerL s.data.toList).length = s.size := by simp [lowerL]
      rw [hll] at hback
      clear hr hke hr2 hll
      go_wp2
      go_ret
      exact ⟨rfl, hb2⟩
/-- A digit's worth. -/
def digN (x : UInt8) : Nat := if 48 ≤ x.toNat ∧ x.toNat ≤ 57 then x.toNat - 48 else if 97 ≤ x.toNat then x.toNat - 87 else x.toNat - 55
def val (b : Nat) (l : List UInt8) : Nat := l.foldl (fun n x => n * b + digN x) 0
theorem blk_new (w : World) (o : Obj) : (w.alloc o).heap[w.heap.size]? = some o := by
  show (w.heap.push o)[w.heap.size]? = _
  simp
def decL (n : Int) : List UInt8 := Lib.decDigits n.toNat
def decS (n : Int) : ByteArray := ⟨(decL n).toArray⟩
theorem grow_below {w w' : World} {k : Nat} {os : Array Obj} (h : w' = Go.Sort.grow (w.drewN k) os) : Below w.heap.size w w' := by
  subst h
  refine ⟨rfl, rfl, rfl, by simp [Go.Sort.grow, World.drewN], fun i hi => ?_⟩
  show (w.heap ++ os)[i]? = _
  rw [Array.getElem?_append_left hi]
theorem tabIs_below {n : String} {g : Nat} {k : IntKind} {zs : List Int} {w w' : World} (hg : Tryz.prog.globalNamed n = some g) (h : Lib.TabIs Tryz.prog w n k zs) (hb : Below w.heap.size w w') : Lib.TabIs Tryz.prog w' n k zs := by
  unfold Lib.TabIs World.var? at h ⊢
  rw [hg] at h ⊢
  simp only [Option.bind_some] at h ⊢
  have hlt : g < w.heap.size := by
    rcases Nat.lt_or_ge g w.heap.size with h' | h'
    · exact h'
    · rw [Array.getElem?_eq_none h'] at h; cases h
  rw [hb.block g hlt]
  exact h
/-- The package-level tables that the calls read hold what start-up code laid. -/
structure Env (w : World) : Prop where
  pow : Lib.TabIs Tryz.prog w "internal/strconv.uint64pow10" .u64 Lib.pow10Tab
theorem Env.below {w w' : World} (h : Env w) (hb : Below w.heap.size w w') : Env w' := ⟨tabIs_below (g := 3) (by kernel_rfl) h.pow hb⟩
theorem itoa_any (x : Int) (h0 : 0 ≤ x) (h1 : x ≤ 9223372036854775807) (w : World) (he : Env w) :
    Calls Tryz.prog 52 #[.int .i64 x] w fun e w' => e = .returned (.string (decS x)) ∧ Below w.heap.size w w' :=
  (Tryz.strconv_Itoa x (by omega) h1 w he.pow).mono fun e w' ⟨h2, k, os, hw⟩ => ⟨by rw [h2]; unfold decS decL Lib.itoa; rw [if_neg (by omega)], grow_below hw⟩
set_option maxRecDepth 100000 in
theorem digits_any (n : Int) (hn : n ≤ 9223372036854775807) (w : World) (he : Env w) :
    Calls Tryz.prog 34 #[.int .i64 n] w fun e w' => e = .returned (.string (decS n)) ∧ Below w.heap.size w w' := by
  have HE := Lib.hid he
  clear he
  go_enter Tryz.func34, Tryz.ntmps34
  go_wp2_with (go_at_call 52; refine (itoa_any (max 0 n) (by omega) (by omega) _ HE.out).mono ?_; rintro e w1 ⟨rfl, hb⟩)
  go_ret
  exact ⟨ret_str (by unfold decS decL; rw [show (max 0 n).toNat = n.toNat by omega]), hb⟩
attribute [local go_sem] Oper.semAt_some

/-! ### A loop over an iterator that turns a box of its own, and a body that never leaves -/
/-- These blocks lie as they lay. -/
def KeepB (S : List Nat) (W W' : World) : Prop := ∀ b, b ∈ S → W'.heap[b]? = W.heap[b]?
theorem KeepB.trans {S : List Nat} {A B C : World} (h : KeepB S A B) (k : KeepB S B C) : KeepB S A C := fun b hb => (k b hb).trans (h b hb)
theorem KeepB.putObj {S : List Nat} (W : World) (l : Nat) (o : Obj) (h : ∀ b ∈ S, b ≠ l) : KeepB S W (W.putObj l o) := fun b hb => World.putObj_heap_other (h b hb)
theorem KeepB.cell {S : List Nat} {A B : World} (h : KeepB S A B) (b : Nat) (hb : b ∈ S) (o : Nat) : B.cell? ⟨b, o, none⟩ = A.cell? ⟨b, o, none⟩ := World.cell?_of_block (h b hb)
theorem KeepB.free {S : List Nat} {A B : World} (h : KeepB S A B) (b : Nat) (hb : b ∈ S) (o : Nat) : B.frozen? ⟨b, o, none⟩ = A.frozen? ⟨b, o, none⟩ := World.frozen?_of_block (h b hb)
/-- What an invariant of the caller's abides: the iterator's stores into its box. -/
def Boxy {α : Type} (Bs : Nat) (J : List α → World → Prop) : Prop := ∀ pre W v, J pre W → J pre (W.setCell ⟨Bs, 0, none⟩ v)
/-- The iterator gives all of xs, to whatever body that keeps the blocks S. -/
def Gives {α : Type} (F : Fence) (n : Nat) (P : Program) (gf : Nat) (lb : Array Value) (encs : α → Array Value) (S : List Nat) (Bs : Nat) (xs : List α) (w : World) : Prop :=
  ∀ (l : Nat) (J : List α → World → Prop) (W : World), Below w.heap.size w W → Boxy Bs J →
    (∀ pre x r W1, J pre W1 → xs = pre ++ x :: r → YieldAt F (n - 1) P l (encs x) W1 fun e W' => e = .returned (.bool true) ∧ J (pre ++ [x]) W' ∧ KeepB S W1 W') →
    J [] W → CallsIn F n P gf (#[.func (.yield l) #[] #[]] ++ lb) W fun e W' => (∃ v, e = .returned v) ∧ J xs W'
theorem range_box {α : Type} {g : Operand} {ps : Array Tmp} {assign body : Code} {Q : Exit → Act → World → Prop} {a : Act} {w : World}
    (hro : F.round = none) (h1 : 1 ≤ n) {gf : Nat} {lb : Array Value} (hg : a.eval g = .func (.func gf) #[] lb) (hFg : F.fn gf) (eg : ∀ args w, (callFunc gf args).run P w = .ok (.enter gf args) w)
    {encs : α → Array Value} {S : List Nat} {Bs : Nat} {xs : List α} (hseq : Gives F (n - 1) P gf lb encs S Bs xs w)
    (hS : ∀ b ∈ S, b < w.heap.size) (hBs : Bs < w.heap.size) (hps : ∀ x, (encs x).size = ps.size)
    (I : List α → World → Prop) (hI : OwnFrom w.heap.size I) (hIB : Boxy Bs I) (h0 : I [] w) (a₁ : α → Act)
    (hassign : ∀ (l : Nat) (x : α) (W : World) (K : Act → World → Prop), K (a₁ x) W →
      assign.wpIn (F.inRound l) (n - 1 - 1) P (Exit.then K (fun _ _ _ => False)) { tmps := (ps.zip (encs x)).foldl (fun t (p, v) => t.setIfInBounds p v) a.tmps, defers := [] } W)
    (hbody : ∀ (l : Nat) (pre : List α) (x : α) (r : List α) (W : World), xs = pre ++ x :: r → I pre W → w.heap.size ≤ W.heap.size →
      body.wpIn (F.inRound l) (n - 1 - 1) P (Exit.then (fun _ W' => KeepsFrom w.heap.size W W' ∧ KeepB S W W' ∧ I (pre ++ [x]) W') (fun _ _ _ => False)) (a₁ x) W)
    (hdone : ∀ (D : Nat) (W : World), w.heap.size ≤ D → I xs W → W.heap[D]? = some (.deferred (some [])) → Q .normal { a with defers := { target := .collected D, args := #[] } :: a.defers } W) :
    (Code.rangeFunc g ps assign body).wpIn F n P Q a w := by
  refine wpIn_rangeFunc fun fn hfn => ?_
  rw [hro]
  generalize hrec : (fun (st : LoopState) (pe : Option Code) => ({ state := st, pending := pe, fn, tmps := a.tmps, params := ps, assign, body, defers := w.heap.size } : Loop)) = rec
  have hr0 : ∀ st pe, rec st pe = { state := st, pending := pe, fn, tmps := a.tmps, params := ps, assign, body, defers := w.heap.size } := fun st pe => by rw [← hrec]
  have hent := run_enterLoop_outer (P := P) (w := w) fn a.tmps ps assign body
  rw [← hr0 .ready none] at hent
  have hL1 : ((w.alloc (.deferred (some []))).alloc (.loop (rec .ready none))).heap[w.heap.size + 1]? = some (.loop (rec .ready none)) := by
    have := World.alloc_heap_new (w.alloc (.deferred (some []))) (.loop (rec .ready none)); rwa [World.size_alloc] at this
  have hK1 : ((w.alloc (.deferred (some []))).alloc (.loop (rec .ready none))).heap[w.heap.size]? = some (.deferred (some [])) :=
    (Below.heap_alloc _ _ _ (by simp)).trans (World.alloc_heap_new w _)
  have hI1 : I [] ((w.alloc (.deferred (some []))).alloc (.loop (rec .ready none))) := hI.alloc _ (hI.alloc _ h0)
  have hb1 : Below w.heap.size w ((w.alloc (.deferred (some []))).alloc (.loop (rec .ready none))) := ((Below.refl _ w).alloc (Nat.le_refl _) _).alloc (by simp) _
  generalize (w.alloc (.deferred (some []))).alloc (.loop (rec .ready none)) = W1 at *
  have hne : ∀ b ∈ S, b ≠ w.heap.size + 1 := fun b hb => by have := hS b hb; omega
  refine ⟨w.heap.size + 1, [{ target := .collected w.heap.size, args := #[] }], W1, { target := .fn (.func gf) lb, args := #[.func (.yield (w.heap.size + 1)) #[] #[]] }, W1, gf,
    #[.func (.yield (w.heap.size + 1)) #[] #[]] ++ lb, W1, hent, ?_, ?_, ?_, fun _ => h1, ?_⟩
  · simp only [resolve, hg]
    simp [go_sem]
  · intro f' hf'; simp [Target.leads] at hf'; subst hf'; exact hFg
  · simp [invoke, go_sem, eg]
  · refine (hseq (w.heap.size + 1)
      (fun pre W => I pre W ∧ W.heap[w.heap.size + 1]? = some (.loop (rec .ready none)) ∧ W.heap[w.heap.size]? = some (.deferred (some [])))
      W1 hb1 (fun pre W v h => ⟨hIB _ _ _ h.1, (Below.heap_setCell _ _ _ _ (by simp; omega)).trans h.2.1, (Below.heap_setCell _ _ _ _ (by simp; omega)).trans h.2.2⟩)
      ?_ ⟨hI1, hL1, hK1⟩).mono ?_
    · rintro pre x r W ⟨hi, hl, hk⟩ hx
      have hlt : w.heap.size + 1 < W.heap.size := (Array.getElem?_eq_some_iff.1 hl).1
      have hy := run_yield (P := P) (args := encs x) hl (by rw [hr0]; exact hps x)
      simp only [hr0] at hy
      refine ⟨fn, _, assign, body, hy, roundIn_of_wpIn hfn (hassign _ x W _ ⟨_, run_beginRound hl (by rw [hr0]), ?_⟩)⟩
      generalize hW2 : W.putObj (w.heap.size + 1) (.loop { rec .ready none with state := .busy }) = W2
      have hl2 : W2.heap[w.heap.size + 1]? = some (.loop { rec .ready none with state := .busy }) := by rw [← hW2]; exact World.putObj_heap_same hlt
      have hk2 : W2.heap[w.heap.size]? = some (.deferred (some [])) := by rw [← hW2]; exact (World.putObj_heap_other (by omega)).trans hk
      have hi2 : I pre W2 := by rw [← hW2]; exact hI.putObj _ hi (by omega) hl rfl
      have hs2 : KeepB S W W2 := by rw [← hW2]; exact KeepB.putObj _ _ _ hne
      have hz2 : w.heap.size ≤ W2.heap.size := by have := (Array.getElem?_eq_some_iff.1 hl2).1; omega
      refine wpIn_mono (hbody _ pre x r W2 hx hi2 hz2) ?_
      rintro e a3 W3 hp
      cases e with
      | normal =>
        obtain ⟨hk3, hkp3, hi3⟩ := hp
        have hl3 := hk3.same _ _ (by omega) hl2 rfl
        have hen := run_endRound (P := P) none hl3
        refine ⟨_, _, hen, rfl, ⟨hI.putObj _ hi3 (by omega) hl3 rfl, ?_, ?_⟩, (hs2.trans hkp3).trans (KeepB.putObj _ _ _ hne)⟩
        · rw [World.putObj_heap_same (Array.getElem?_eq_some_iff.1 hl3).1]
          simp only [hr0]
          rfl
        · exact (World.putObj_heap_other (by omega)).trans (hk3.same _ _ (Nat.le_refl _) hk2 rfl)
      | ret => exact hp.elim
      | exit id => exact hp.elim
      | goto t => exact hp.elim
      | panic ch => exact hp.elim
      | outgrown => exact hp.elim
    · rintro e W2 ⟨⟨v, rfl⟩, hi, hl, hk⟩
      have hen := run_endLoop (P := P) hl (by rw [hr0]; simp)
      simp only [hr0] at hen hl
      exact ⟨none, _, hen, hdone _ _ (Nat.le_refl _) (hI.putObj _ hi (by omega) hl rfl) ((World.putObj_heap_other (by omega)).trans hk)⟩

/-! ### strings.SplitSeq at a comma -/
def parts : List UInt8 → List (List UInt8)
  | [] => [[]]
  | x :: r => if x = 44 then [] :: parts r else match parts r with | [] => [[x]] | p :: q => (x :: p) :: q
theorem parts_cons (x : UInt8) (r : List UInt8) : parts (x :: r) = if x = 44 then [] :: parts r else match parts r with | [] => [[x]] | p :: q => (x :: p) :: q := by rw [parts]
theorem ix_ge (l : List UInt8) (c : UInt8) : -1 ≤ Lib.indexByte l c := by
  induction l with
  | nil => simp [Lib.indexByte]
  | cons x r ih => unfold Lib.indexByte; split <;> (try split) <;> omega
theorem ix_cons (x : UInt8) (r : List UInt8) : Lib.indexByte (x :: r) 44 = if x = 44 then 0 else if Lib.indexByte r 44 < 0 then -1 else Lib.indexByte r 44 + 1 := by
  have h := ix_ge r 44
  rw [Lib.indexByte]
  by_cases hx : x = 44
  · simp [hx]
  · have h1 : (x == 44) = false := by simpa using hx
    rw [h1, if_neg hx, if_neg (by decide)]
    by_cases h2 : Lib.indexByte r 44 = -1
    · rw [if_pos (by rw [h2]; rfl), if_pos (by omega)]
    · rw [if_neg (by simpa using h2), if_neg (by omega)]
theorem parts_no {l : List UInt8} (h : Lib.indexByte l 44 < 0) : parts l = [l] := by
  induction l with
  | nil => rfl
  | cons x r ih =>
    rw [ix_cons] at h
    by_cases hx : x = 44
    · rw [if_pos hx] at h; omega
    · rw [if_neg hx] at h
      have hr : Lib.indexByte r 44 < 0 := by
        rcases Int.lt_or_le (Lib.indexByte r 44) 0 with h2 | h2
        · exact h2
        · rw [if_neg (by omega)] at h; omega
      rw [parts_cons, if_neg hx, ih hr]
theorem parts_at {l : List UInt8} {i : Nat} (h : Lib.indexByte l 44 = i) : i < l.length ∧ parts l = l.take i :: parts (l.drop (i + 1)) := by
  induction l generalizing i with
  | nil => have : Lib.indexByte [] 44 = -1 := by decide
           omega
  | cons x r ih =>
    rw [ix_cons] at h
    by_cases hx : x = 44
    · rw [if_pos hx] at h
      obtain rfl : i = 0 := by omega
      rw [parts_cons, if_pos hx]
      simp
    · rw [if_neg hx] at h
      rcases Int.lt_or_le (Lib.indexByte r 44) 0 with h2 | h2
      · rw [if_pos h2] at h; omega
      · rw [if_neg (by omega)] at h
        obtain ⟨j, rfl⟩ : ∃ j, i = j + 1 := ⟨i - 1, by omega⟩
        obtain ⟨h3, h4⟩ := ih (i := j) (by omega)
        refine ⟨by simp; omega, ?_⟩
        rw [parts_cons, if_neg hx, h4]
        simp
/-- The size of the text in a box. -/
def szAt (b : Nat) (w : World) : Nat := match w.cell? ⟨b, 0, none⟩ with | some (.string t) => t.size | _ => 0
theorem szAt_eq {b : Nat} {w : World} {t : ByteArray} (h : w.cell? ⟨b, 0, none⟩ = some (.string t)) : szAt b w = t.size := by unfold szAt; rw [h]
theorem ba_mk (t : ByteArray) : (⟨t.data.toList.toArray⟩ : ByteArray) = t := by cases t; rfl
theorem ba_take (t : ByteArray) (i : Nat) : t.extract 0 i = ⟨(t.data.toList.take i).toArray⟩ := by
  apply Go.WideShapes.bytes_inj
  rw [Lib.extract_from_zero]
theorem ba_drop (t : ByteArray) (i : Nat) : t.extract i t.size = ⟨(t.data.toList.drop i).toArray⟩ := by
  apply Go.WideShapes.bytes_inj
  rw [Lib.extract_to_end]
def encS (x : List UInt8) : Array Value := #[.string ⟨x.toArray⟩]
set_option maxRecDepth 100000 in
set_option maxHeartbeats 1000000 in
theorem split_iter (n : Nat) (B0 Bs B2 : Nat) (h01 : B0 ≠ Bs) (h12 : Bs ≠ B2) (s : ByteArray) (hs : s.size ≤ maxLen) (w : World)
    (c0 : w.cell? ⟨B0, 0, none⟩ = some (.string ⟨#[44]⟩)) (c1 : w.cell? ⟨Bs, 0, none⟩ = some (.string s)) (c2 : w.cell? ⟨B2, 0, none⟩ = some (.int .i64 0)) (f1 : w.frozen? ⟨Bs, 0, none⟩ = false) :
    Gives Fence.wide n Tryz.prog 69 #[.pointer (some ⟨B0, 0, none⟩), .pointer (some ⟨Bs, 0, none⟩), .pointer (some ⟨B2, 0, none⟩)] encS [B0, Bs, B2] Bs (parts s.data.toList) w := by
  intro l J W hW hBx hY h0
  have l0 := World.block_lt_of_cell? _ _ c0
  have l1 := World.block_lt_of_cell? _ _ c1
  have l2 := World.block_lt_of_cell? _ _ c2
  have d0 := (hW.cell (p := ⟨B0, 0, none⟩) l0).trans c0
  have d1 := (hW.cell (p := ⟨Bs, 0, none⟩) l1).trans c1
  have d2 := (hW.cell (p := ⟨B2, 0, none⟩) l2).trans c2
  have g1 := (hW.frozen (p := ⟨Bs, 0, none⟩) l1).trans f1
  clear c0 c1 c2 f1 hW l0 l1 l2
  refine callsIn_of_wp Tryz.func69 rfl trivial ?_ rfl
  simp only [Tryz.ntmps69, List.size_toArray, List.length_cons, List.length_nil, Nat.reduceAdd, Nat.reduceSub, Array.replicate_succ, Array.replicate_zero, List.push_toArray, List.append_toArray, List.nil_append, List.cons_append]
  gi_wp2_with fail
  gi_loopw [7] (fun v wr => ∃ (pre : List (List UInt8)) (t : ByteArray), parts s.data.toList = pre ++ parts t.data.toList ∧ t.size ≤ maxLen ∧ wr.cell? ⟨B0, 0, none⟩ = some (.string ⟨#[44]⟩) ∧ wr.cell? ⟨Bs, 0, none⟩ = some (.string t) ∧ wr.cell? ⟨B2, 0, none⟩ = some (.int .i64 0) ∧ wr.frozen? ⟨Bs, 0, none⟩ = false ∧ J pre wr) (fun _ wr => szAt Bs wr)
  case atStart => exact ⟨[], s, by simp, hs, d0, d1, d2, g1, h0⟩
  case round =>
    obtain ⟨pre, t, hp, ht, d0, d1, d2, g1, hJ⟩ := hrel
    unfold maxLen at ht
    have hsz := szAt_eq d1
    rcases Int.lt_or_le (Lib.indexByte t.data.toList 44) 0 with hi | hi
    · rw [parts_no hi] at hp
      obtain ⟨fn, tmps, assign, body, hy, hR⟩ := hY pre _ _ wr hJ hp
      rw [encS, ba_mk] at hy
      have HP := Lib.hid hp
      clear hp
      gi_wp2_with (refine ⟨trivial, fun h => absurd h (by decide), ?_⟩; gi_at_call 71; refine (callsIn_wide.2 (Tryz.strings_Index_one _ _ _)).mono ?_; rintro e w' ⟨rfl, rfl⟩)
      refine ⟨fun h => absurd h (by decide), hR.mono ?_⟩
      rintro e W3 ⟨rfl, hJ3, hk3⟩
      gi_wp2
      go_end0
      exact ⟨⟨_, rfl⟩, by rw [HP.out]; exact hJ3⟩
    · obtain ⟨i, hi2⟩ := Int.eq_ofNat_of_zero_le hi
      obtain ⟨h3, h4⟩ := parts_at hi2
      rw [h4] at hp
      obtain ⟨fn, tmps, assign, body, hy, hR⟩ := hY pre _ _ wr hJ hp
      rw [encS, ← ba_take] at hy
      have HP := Lib.hid hp
      have h3' : i < t.size := by simpa using h3
      clear hp h4 hi h3
      gi_wp2_with (refine ⟨trivial, fun h => absurd h (by decide), ?_⟩; gi_at_call 71; refine (callsIn_wide.2 (Tryz.strings_Index_one _ _ _)).mono ?_; rintro e w' ⟨rfl, rfl⟩)
      refine ⟨fun h => absurd h (by decide), hR.mono ?_⟩
      rintro e W3 ⟨rfl, hJ3, hk3⟩
      have e0 := (hk3.cell B0 (by simp) 0).trans d0
      have e1 := (hk3.cell Bs (by simp) 0).trans d1
      have e2 := (hk3.cell B2 (by simp) 0).trans d2
      have ef := (hk3.free Bs (by simp) 0).trans g1
      gi_wp2
      have c1 : (W3.setCell ⟨Bs, 0, none⟩ (.string (t.extract (i + 1) t.size))).cell? ⟨Bs, 0, none⟩ = some (.string (t.extract (i + 1) t.size)) := World.cell?_setCell_same _ _ _ e1
      go_roundw
      case rel => exact ⟨pre ++ [t.data.toList.take i], t.extract (i + 1) t.size, by rw [HP.out, ba_drop]; simp, by unfold maxLen; simp; omega, by rw [World.cell?_setCell_other _ _ _ _ (by simp)]; exact e0, c1, by rw [World.cell?_setCell_other _ _ _ _ (by simp)]; exact e2, by simp; exact ef, hBx _ _ _ hJ3⟩
      case measure => rw [szAt_eq c1, hsz]; simp; omega
set_option maxRecDepth 100000 in
set_option maxHeartbeats 1000000 in
theorem splitSeq_any (s : ByteArray) (w : World) :
    Calls Tryz.prog 55 #[.string s, .string ⟨#[44]⟩] w fun e w' => e = .returned (.func (.func 69) #[] #[.pointer (some ⟨w.heap.size + 1, 0, none⟩), .pointer (some ⟨w.heap.size, 0, none⟩), .pointer (some ⟨w.heap.size + 2, 0, none⟩)]) ∧ w' = ((w.alloc (.cells #[.string s] 9)).alloc (.cells #[.string ⟨#[44]⟩] 9)).alloc (.cells #[.int .i64 0] 3) := by
  go_enter Tryz.func55, Tryz.ntmps55
  go_wp2
  go_ret
  exact ⟨rfl, rfl⟩
attribute [local go_sem] Oper.semAt_some

/-- A slice value reads as these texts. -/
def Strs (w : World) (v : Value) (xs : List ByteArray) : Prop :=
  ∃ A c, v = .slice A xs.length c ∧ xs.length ≤ c ∧ (0 < xs.length → ∃ b o, A = some ⟨b, o, none⟩ ∧ b < w.heap.size ∧ ∀ j x, xs[j]? = some x → w.cell? ⟨b, o + j, none⟩ = some (.string x))
theorem Strs.below {w w' : World} {v : Value} {xs : List ByteArray} (h : Strs w v xs) (hb : Below w.heap.size w w') : Strs w' v xs := by
  obtain ⟨A, c, hv, hc, hr⟩ := h
  refine ⟨A, c, hv, hc, fun hp => ?_⟩
  obtain ⟨b, o, hA, hlt, hx⟩ := hr hp
  exact ⟨b, o, hA, Nat.lt_of_lt_of_le hlt hb.size, fun j x hj => (hb.cell (p := ⟨b, o + j, none⟩) hlt).trans (hx j x hj)⟩
/-- Texts in memory of the call's own. -/
def OwnStrs (w : World) (base : Nat) (v : Value) (xs : List ByteArray) : Prop := w.ownsRow base 9 1 v xs.length (xs.map Value.string)
theorem OwnStrs.strs {w : World} {base : Nat} {v : Value} {xs : List ByteArray} (h : OwnStrs w base v xs) : Strs w v xs := by
  have h0 : w.ownsRow base 9 1 v xs.length (xs.map Value.string) := h
  obtain ⟨h1, h2⟩ := h
  rcases h2 with ⟨rfl, h3⟩ | ⟨g, cap, cur, rfl, h3, h4, h5⟩
  · have hx : xs = [] := by simpa using h3
    subst hx
    exact ⟨none, 0, rfl, Nat.le_refl _, fun h => absurd h (by simp)⟩
  · have hlt : g < w.heap.size := (Array.getElem?_eq_some_iff.1 h4).1
    refine ⟨_, cap, rfl, h5.1, fun _ => ⟨g, 0, rfl, hlt, fun j x hj => ?_⟩⟩
    have := h0.cells (g := g) rfl j (.string x) (by simp [hj])
    rw [← this]
    simp only [Addr.add]
    split
    · subst_vars; rfl
    · rfl
theorem join_any (xs : List ByteArray) (v : Value) (w : World) (hv : Strs w v xs) (hN : xs.length ≤ 140737488355328) (hlen : (Lib.join (xs.map (·.data.toList)) [44]).length ≤ 140737488355328) :
    Calls Tryz.prog 31 #[v, .string ⟨#[44]⟩] w fun e w' => e = .returned (.string ⟨(Lib.join (xs.map (·.data.toList)) [44]).toArray⟩) ∧ Below w.heap.size w w' := by
  obtain ⟨A, c, rfl, hc, hr⟩ := hv
  by_cases hp : 0 < xs.length
  · obtain ⟨b, o, rfl, hlt, hx⟩ := hr hp
    exact Tryz.strings_Join b o c xs ⟨#[44]⟩ w hx hlt hN hc hlen
  · have hx : xs = [] := List.length_eq_zero_iff.1 (by omega)
    subst hx
    exact (Tryz.strings_Join_none A c ⟨#[44]⟩ w).mono fun e w' ⟨h1, h2⟩ => ⟨by rw [h1]; rfl, by rw [h2]; exact Below.refl _ _⟩
/-- Parts of texts, trimmed, the empty ones left out. -/
def keepL (l : List (List UInt8)) : List (List UInt8) := (l.map trimL).filter (fun p => !p.isEmpty)
def listL (l : List (List UInt8)) : List (List UInt8) := keepL (parts (Lib.join l [44]))
def listS (xs : List ByteArray) : List ByteArray := (listL (xs.map (·.data.toList))).map (fun p => ⟨p.toArray⟩)
theorem keepL_snoc (l : List (List UInt8)) (p : List UInt8) : keepL (l ++ [p]) = keepL l ++ if (trimL p).isEmpty = true then [] else [trimL p] := by
  unfold keepL
  rw [List.map_append, List.filter_append]
  cases h : (trimL p).isEmpty <;> simp [h]
theorem info9 : (Tryz.prog.info? 9).map (fun i => (i.zero, i.size, i.bytes)) = some (some (.string ⟨#[]⟩), 1, 16) := by kernel_rfl
theorem splitSeq_box (s : ByteArray) (w : World) :
    Calls Tryz.prog 55 #[.string s, .string ⟨#[44]⟩] w fun e w' => ∃ B, e = .returned (.func (.func 69) #[] #[.pointer (some ⟨B + 1, 0, none⟩), .pointer (some ⟨B, 0, none⟩), .pointer (some ⟨B + 2, 0, none⟩)]) ∧ w.heap.size = B ∧ w'.heap.size = B + 3 ∧
      Boxed w' (B + 1) 9 (.string ⟨#[44]⟩) ∧ Boxed w' B 9 (.string s) ∧ Boxed w' (B + 2) 3 (.int .i64 0) ∧ Below w.heap.size w w' := by
  refine (splitSeq_any s w).mono fun e w' ⟨h1, h2⟩ => ⟨w.heap.size, h1, rfl, ?_⟩
  subst h2
  have b0 := Boxed.new w 9 (.string s)
  have b1 := Boxed.new (w.alloc (.cells #[.string s] 9)) 9 (.string ⟨#[44]⟩)
  have b2 := Boxed.new ((w.alloc (.cells #[.string s] 9)).alloc (.cells #[.string ⟨#[44]⟩] 9)) 3 (.int .i64 0)
  rw [World.size_alloc] at b1
  rw [World.size_alloc, World.size_alloc] at b2
  exact ⟨by simp, b1.alloc _, (b0.alloc _).alloc _, b2, ((((Below.refl _ w).alloc (Nat.le_refl _) _).alloc (by simp) _).alloc (by simp; omega) _)⟩
theorem box_below {w w' : World} {B : Nat} {t : TypeId} {v : Value} (h : Boxed w B t v) (hb : Below w.heap.size w w') : Boxed w' B t v := (hb.block B h.lt).trans h
theorem box_far {w : World} {B : Nat} {t : TypeId} {v : Value} (h : Boxed w B t v) (b : Nat) (hne : B ≠ b) (u : Value) : Boxed (w.setCell ⟨b, 0, none⟩ u) B t v := (Below.heap_setCell w ⟨b, 0, none⟩ u B hne).trans h
theorem own_lower {w : World} {base base' : Nat} {e : TypeId} {size n : Nat} {v : Value} {xs : List Value} (h : w.ownsRow base e size v n xs) (hb : base' ≤ base) : w.ownsRow base' e size v n xs := by
  obtain ⟨h1, h2⟩ := h
  refine ⟨h1, ?_⟩
  rcases h2 with h2 | ⟨g, cap, cur, hv, hg, r⟩
  · exact .inl h2
  · exact .inr ⟨g, cap, cur, hv, by omega, r⟩
theorem own_none (v : Value) : v.ownBlock = none ∨ v.ownBlock ≠ none := by cases v.ownBlock <;> simp
theorem grown_below {w w' : World} (h : Below w.heap.size w w') : w.grownBy w' none := ⟨h.os, h.tape, h.output, h.size, fun k hk _ => h.block k hk⟩
theorem parts_len (l : List UInt8) : (parts l).length ≤ l.length + 1 ∧ ∀ p ∈ parts l, p.length ≤ l.length := by
  induction l with
  | nil => simp [parts]
  | cons x r ih =>
    obtain ⟨h1, h2⟩ := ih
    rw [parts_cons]
    by_cases hx : x = 44
    · rw [if_pos hx]
      refine ⟨by simp; omega, fun p hp => ?_⟩
      rcases List.mem_cons.1 hp with rfl | hp
      · simp
      · have := h2 p hp; simp; omega
    · rw [if_neg hx]
      cases hr : parts r with
      | nil => simp
      | cons q t =>
        rw [hr] at h1 h2
        refine ⟨by simp at h1 ⊢; omega, fun p hp => ?_⟩
        rcases List.mem_cons.1 hp with rfl | hp
        · have := h2 q (by simp); simp; omega
        · have := h2 p (by simp [hp]); simp; omega
theorem keepL_len (l : List (List UInt8)) : (keepL l).length ≤ l.length := by
  unfold keepL
  have := List.length_filter_le (fun p : List UInt8 => !p.isEmpty) (l.map trimL)
  simpa using this
def strV (p : List UInt8) : Value := .string ⟨p.toArray⟩
theorem ba_size (l : List UInt8) : (⟨l.toArray⟩ : ByteArray).size = l.length := by simp [ByteArray.size]
theorem trimS_mk (x : List UInt8) : trimS ⟨x.toArray⟩ = ⟨(trimL x).toArray⟩ := rfl
set_option maxRecDepth 100000 in
set_option maxHeartbeats 2000000 in
theorem list_any (xs : List ByteArray) (v : Value) (w : World) (hv : Strs w v xs) (hN : xs.length ≤ 140737488355328) (hlen : (Lib.join (xs.map (·.data.toList)) [44]).length ≤ 1099511627776) :
    Calls Tryz.prog 39 #[v] w fun e w' => ∃ u, e = .returned u ∧ OwnStrs w' w.heap.size u (listS xs) ∧ Below w.heap.size w w' := by
  have h1 : 1 ≤ 5 := by decide
  obtain ⟨i0, hi, hz0, hz1, hz2⟩ := info_parts info9
  refine (callsIn_wide (n := 5)).1 ?_
  refine callsIn_of_wp_marks Tryz.func39 rfl trivial ?_ rfl
  simp only [Tryz.ntmps39, List.size_toArray, List.length_cons, List.length_nil, Nat.reduceAdd, Nat.reduceSub, Array.replicate_succ, Array.replicate_zero, List.push_toArray, List.append_toArray, List.nil_append, List.cons_append]
  have hv1 : Strs (w.alloc (.cells #[.slice none 0 0] 53)) v xs := hv.below ((Below.refl _ w).alloc (Nat.le_refl _) _)
  have hJ := Lib.hid (join_any xs v _ hv1 hN (by omega))
  have bO := Boxed.new w 53 (.slice none 0 0)
  have hB0 : Below w.heap.size w (w.alloc (.cells #[.slice none 0 0] 53)) := (Below.refl _ w).alloc (Nat.le_refl _) _
  clear hv1 hv
  gi_wp2_with (first
    | (refine ⟨trivial, ?_⟩; gi_at_call 31; refine (callsIn_wide.2 hJ.out).mono ?_; rintro e w1 ⟨rfl, hb1⟩)
    | (refine ⟨trivial, ?_⟩; gi_at_call 55; refine (callsIn_wide.2 (splitSeq_box _ _)).mono ?_; rintro e w2 ⟨B, rfl, hsB, hs2, bb1, bb0, bb2, hb2⟩))
  obtain ⟨O, hO⟩ : ∃ O, w.heap.size = O := ⟨_, rfl⟩
  have hs1 : O + 1 ≤ w1.heap.size := by have := hb1.size; simp at this; omega
  have bO1 := box_below bO hb1
  have hBw1 : Below w.heap.size w w1 := hB0.trans (hb1.mono (by simp))
  have bO2 := box_below bO1 hb2
  have hBw2 : Below w.heap.size w w2 := hBw1.trans (hb2.mono hBw1.size)
  obtain ⟨J, hJd⟩ : ∃ J, Lib.join (xs.map (·.data.toList)) [44] = J := ⟨_, rfl⟩
  rw [hJd] at hlen bb0
  have hpl := parts_len J
  clear bO hb1 bO1 hBw1 hb2 hJ hB0
  refine range_box (α := List UInt8) rfl h1 (gf := 69) (lb := #[.pointer (some ⟨B + 1, 0, none⟩), .pointer (some ⟨B, 0, none⟩), .pointer (some ⟨B + 2, 0, none⟩)]) rfl trivial (enters_of Tryz.func69 (by kernel_rfl) rfl)
    (split_iter 4 (B + 1) B (B + 2) (by omega) (by omega) ⟨J.toArray⟩ (by unfold maxLen; rw [ba_size]; omega) w2 bb1.cell bb0.cell bb2.cell bb0.frozen) (by simp; omega) (by omega) (fun _ => rfl)
    (fun pre W => ((∃ u, Boxed W O 53 u ∧ W.ownsRow (B + 3) 9 1 u (keepL pre).length ((keepL pre).map strV) ∧ True) ∧ Below w.heap.size w W) ∧ B + 3 ≤ W.heap.size)
    ?hI ?hIB ?h0
    (fun x => { tmps := #[v, undef, .slice none 0 0, .pointer (some ⟨O, 0, none⟩), strV x, undef, v, .string ⟨J.toArray⟩, .func (.func 69) #[] #[.pointer (some ⟨B + 1, 0, none⟩), .pointer (some ⟨B, 0, none⟩), .pointer (some ⟨B + 2, 0, none⟩)], strV x, undef, undef, undef, undef, undef, undef, undef, undef, undef], defers := [] }) ?assign ?body ?done
  case hI =>
    refine OwnFrom.and (OwnFrom.and (Own.from (holdsRow_own (B + 3) O 53 9 1 (fun pre => (keepL pre).length) (fun pre => (keepL pre).map strV) (fun _ _ => True)) _) (ownFrom_below (Nat.le_refl _) (by omega))) ?_
    exact fun s W W' row h hg hr => Nat.le_trans h hg.size
  case hIB =>
    rintro pre W u ⟨⟨⟨u1, hu, hr, -⟩, hb⟩, hz⟩
    exact ⟨⟨⟨u1, box_far hu B (by omega) _, ownsRow_setCell_below hr (by simp) _, trivial⟩, hb.setCell (by simp; omega) _⟩, by simp [World.setCell]; exact hz⟩
  case h0 => exact ⟨⟨⟨_, by rw [← hO]; exact bO2, World.ownsRow_nil _ _ _ _, trivial⟩, hBw2⟩, by omega⟩
  case assign =>
    intro l x W K hK
    unfold encS
    unfold strV at hK
    gi_wp2
    exact hK
  case body =>
    rintro l pre x r W hx ⟨⟨⟨u, hu, hrow, -⟩, hB⟩, hz⟩ hge
    have hxl : x.length ≤ J.length := hpl.2 x (by rw [hx]; simp)
    have hxs : (⟨x.toArray⟩ : ByteArray).size ≤ maxLen := by unfold maxLen; rw [ba_size]; omega
    have hkl := keepL_len pre
    have hpr : pre.length + 1 ≤ J.length + 1 := by have h1 := hpl.1; rw [hx] at h1; simp at h1; omega
    have hkn : (keepL pre).length ≤ 1099511627776 := by omega
    have HX := Lib.hid hx
    clear hx hkl hpr
    rw [show strV x = .string ⟨x.toArray⟩ from rfl]
    have hsn := Lib.hid (keepL_snoc pre x)
    cases he : (trimL x).isEmpty
    · have he2 : (trimS ⟨x.toArray⟩).toList.isEmpty = false := by rw [Lib.toList_data]; exact he
      have HE := Lib.hid he
      clear he
      gi_wp2_with (first
        | (refine ⟨trivial, ?_⟩; gi_at_call 56; refine (CallsIn.inRound l (callsIn_wide.2 (trim_any _ hxs _))).mono ?_; rintro e W3 ⟨rfl, hb3⟩; have hu3 := box_below hu hb3; have hrow3 := hrow.kept (grown_below hb3) (own_none _); have hc3 := hu3.cell)
        | (gi_at_builtin; refine wpListIn_append_own _ rfl _ _ 53 rfl (B + 3) 9 i0 (.string ⟨#[]⟩) 1 16 Tryz.underlying53 hi hz0 hz1 hz2 rfl (by decide) _ _ _ rfl (hrow3.alloc _) ⟨W3.heap.size, 0, none⟩ 1 1 [.string (trimS ⟨x.toArray⟩)] rfl rfl (cell_one_new _ _ _) (by simp [Value.oneCell']) (by unfold maxLen; omega) (by omega) (by have := hb3.size; simp; omega) ?_; intro v' w1 hown' hgrow _; obtain ⟨g', cap', rfl⟩ := ownsRow_succ hown'; have hv1 : Boxed w1 O 53 u := (hu3.alloc _).kept hgrow (hu3.not_row (by decide) hrow3); have hc1 := hv1.cell; have hf1 := hv1.frozen))
      have hsn2 : keepL (pre ++ [x]) = keepL pre ++ [trimL x] := by rw [hsn.out, HE.out]; rfl
      rw [hsn2]
      have hbk : ∀ b, b < B + 3 → b ≠ O → (w1.setCell ⟨O, 0, none⟩ (.slice (some ⟨g', 0, none⟩) ((keepL pre).length + 1) cap')).heap[b]? = W.heap[b]? := fun b hb hne =>
        (Below.heap_setCell _ _ _ _ hne).trans ((hgrow.block b (by have := hb3.size; simp; omega) (fun e => by have := (hrow3.lt b e.symm).1; omega)).trans ((Below.heap_alloc _ _ _ (by have := hb3.size; omega)).trans (hb3.block b (by omega))))
      have hko : KeepsOthers W (w1.setCell ⟨O, 0, none⟩ (.slice (some ⟨g', 0, none⟩) ((keepL pre).length + 1) cap')) := by
        refine (((KeepsOthers.of_grownBy (grown_below hb3) (fun j o e => by cases e)).trans (KeepsOthers.alloc _ _)).trans (KeepsOthers.of_grownBy hgrow fun j o ej hj => ?_)).trans (KeepsOthers.setCell _ _ _)
        rcases (hrow3.alloc (.cells #[.string (trimS ⟨x.toArray⟩)] 9)).2 with ⟨rfl, _⟩ | ⟨g, cap, cur, rfl, _, hgb, _⟩
        · cases (show (none : Option Nat) = some j from ej)
        · obtain rfl := Option.some.inj (show some g = some j from ej)
          rw [hgb] at hj; cases hj; rfl
      refine ⟨hko.from _, fun b hb => ?_, ⟨⟨_, hv1.set _, ?_, trivial⟩, ?_⟩, ?_⟩
      · refine hbk b ?_ ?_ <;> (simp at hb; omega)
      · have hk := hown'.kept (grownBy_setCell' w1 O (.slice (some ⟨g', 0, none⟩) ((keepL pre).length + 1) cap')) (.inr (hv1.not_row (by decide) hown').symm)
        rw [List.length_append, List.map_append]
        exact hk
      · have hz3 : w.heap.size ≤ W3.heap.size := by have := hb3.size; have := hB.size; omega
        exact ((hB.trans (hb3.mono (by have := hB.size; omega))).trans ((((Below.refl (w.heap.size) W3).alloc (by omega) _).grown hgrow (by simp; omega) (fun j ej => by have := (hrow3.lt j ej).1; omega)).setCell (p := ⟨O, 0, none⟩) (by simp; omega) _))
      · have h1 := hgrow.size
        have h2 := hb3.size
        simp at h1
        simp [World.setCell]
        omega
    · have he2 : (trimS ⟨x.toArray⟩).toList.isEmpty = true := by rw [Lib.toList_data]; exact he
      have HE := Lib.hid he
      clear he
      gi_wp2_with (first
        | (refine ⟨trivial, ?_⟩; gi_at_call 56; refine (CallsIn.inRound l (callsIn_wide.2 (trim_any _ hxs _))).mono ?_; rintro e W3 ⟨rfl, hb3⟩))
      have hsn2 : keepL (pre ++ [x]) = keepL pre := by rw [hsn.out, HE.out]; simp
      rw [hsn2]
      exact ⟨(KeepsOthers.of_grownBy (grown_below hb3) (fun j o e => by cases e)).from _, fun b hb => hb3.block b (by simp at hb; omega), ⟨⟨u, box_below hu hb3, hrow.kept (grown_below hb3) (own_none _), trivial⟩, hB.trans (hb3.mono (by have := hB.size; omega))⟩, by have := hb3.size; omega⟩
  case done =>
    rintro D W hD ⟨⟨⟨u, hu, hrow, -⟩, hB⟩, hz⟩ hK
    have hc := hu.cell
    gi_wp2
    refine ⟨by simp, .inl ⟨_, _, rfl, run_takeDeferred hK, ?_⟩⟩
    refine ⟨_, results_tmp rfl _ _ _, u, rfl, ?_, ?_⟩
    · have h1 := ownsRow_putObj hrow (.deferred none) hK rfl
      have h2 : (keepL (parts J)) = listL (xs.map (·.data.toList)) := by rw [← hJd]; rfl
      rw [h2] at h1
      have h3 : (listS xs).length = (listL (xs.map (·.data.toList))).length := by simp [listS]
      have h4 : (listS xs).map Value.string = (listL (xs.map (·.data.toList))).map strV := by simp [listS, strV]
      unfold OwnStrs
      rw [h3, h4]
      exact own_lower h1 (by omega)
    · have hDl := (Array.getElem?_eq_some_iff.1 hK).1
      rw [hO] at hB
      exact hB.grown (grownBy_putObj' W D (.deferred none)) (by have := hB.size; omega) (fun k e => by cases e; omega)
def blankB (b : Int) : Bool := decide (b = 32 ∨ b = 9)
set_option maxHeartbeats 400000 in
theorem blank_any (b : Int) (w : World) :
    Calls Tryz.prog 68 #[.int .u8 b] w fun e w' => e = .returned (.bool (blankB b)) ∧ w = w' := by
  go_enter Tryz.func68, Tryz.ntmps68
  go_wp2
  all_goals go_ret
  all_goals refine ⟨ret_bool ?_, rfl⟩
  all_goals (show _ = blankB b; unfold blankB; rw [Bool.eq_iff_iff]; simp; try omega)
/-! ### Trim: from the left and from the right is all one -/
def tl (p : UInt8 → Bool) (l : List UInt8) : List UInt8 := l.dropWhile p
def tr (p : UInt8 → Bool) (l : List UInt8) : List UInt8 := (l.reverse.dropWhile p).reverse
theorem tr_cons (p : UInt8 → Bool) (x : UInt8) (r : List UInt8) : tr p (x :: r) = if tr p r = [] then (if p x = true then [] else [x]) else x :: tr p r := by
  unfold tr
  rw [List.reverse_cons, List.dropWhile_append]
  by_cases h : (r.reverse.dropWhile p) = []
  · rw [h]
    simp only [List.isEmpty_nil, if_true, List.reverse_nil]
    by_cases hx : p x = true
    · simp [List.dropWhile, hx]
    · simp [List.dropWhile, hx]
  · have h1 : (r.reverse.dropWhile p).isEmpty = false := by simpa using h
    rw [h1, if_neg (by simp), if_neg (by simpa using h)]
    simp
theorem tl_tr (p : UInt8 → Bool) (l : List UInt8) : tl p (tr p l) = tr p (tl p l) := by
  induction l with
  | nil => rfl
  | cons x r ih =>
    by_cases hx : p x = true
    · have h1 : tl p (x :: r) = tl p r := by simp [tl, List.dropWhile, hx]
      rw [h1, ← ih, tr_cons]
      split
      · rename_i h; rw [h]
      · simp [tl, List.dropWhile, hx]
    · have h1 : tl p (x :: r) = x :: r := by simp [tl, List.dropWhile, hx]
      rw [h1, tr_cons]
      split
      · simp [tl, List.dropWhile, hx]
      · simp [tl, List.dropWhile, hx]
def isBl (x : UInt8) : Bool := ([32, 9] : List UInt8).contains x
theorem trimL_eq (l : List UInt8) : trimL l = tr isBl (tl isBl l) := by rw [← tl_tr]; rfl
theorem bl_fin : ∀ x : Fin 256, isBl (UInt8.ofNat x.val) = blankB x.val := by decide +kernel
theorem isBl_eq (x : UInt8) : isBl x = blankB (x.toNat : Int) := by
  have := bl_fin ⟨x.toNat, x.toNat_lt⟩; simpa only [UInt8.ofNat_toNat] using this
theorem len_sz (s : ByteArray) : s.data.toList.length = s.size := by simp
theorem data_cons (s : ByteArray) (h : 0 < s.size) : s.data.toList = s[0] :: (s.extract 1 s.size).data.toList := by
  rw [Lib.extract_to_end]
  have h1 : 0 < s.data.toList.length := by simpa using h
  have := List.drop_eq_getElem_cons h1
  rw [List.drop_zero] at this
  exact this
theorem data_snoc (s : ByteArray) (h : 0 < s.size) : s.data.toList = (s.extract 0 (s.size - 1)).data.toList ++ [s[s.size - 1]] := by
  rw [Lib.extract_from_zero]
  have h1 := take_snoc s (s.size - 1) (by omega)
  rw [show s.size - 1 + 1 = s.size by omega, List.take_of_length_le (by simp)] at h1
  exact h1
theorem tr_snoc (p : UInt8 → Bool) (l : List UInt8) (x : UInt8) (h : p x = true) : tr p (l ++ [x]) = tr p l := by simp [tr, h]
theorem tr_stop (p : UInt8 → Bool) (l : List UInt8) (x : UInt8) (h : p x = false) : tr p (l ++ [x]) = l ++ [x] := by simp [tr, h]
set_option maxHeartbeats 1000000 in
theorem refTrim_any (s : ByteArray) (hs : s.size ≤ maxLen) (w : World) :
    Calls Tryz.prog 62 #[.string s] w fun e w' => e = .returned (.string (trimS s)) ∧ w = w' := by
  have hT : trimS s = ⟨(tr isBl (tl isBl s.data.toList)).toArray⟩ := by unfold trimS; rw [trimL_eq]
  rw [hT]
  generalize hgoal : tr isBl (tl isBl s.data.toList) = T
  have HG := Lib.hid hgoal
  clear hgoal hT
  unfold maxLen at hs
  go_enter Tryz.func62, Tryz.ntmps62
  go_wp2_with fail
  go_loop [0] (fun v => ∃ t : ByteArray, v = .string t ∧ t.size ≤ s.size ∧ Hid (tr isBl (tl isBl t.data.toList) = T)) (fun v => match v with | .string t => t.size | _ => 0)
  case atStart => exact ⟨s, rfl, Nat.le_refl _, HG⟩
  case round =>
    obtain ⟨t, rfl, ht, hT⟩ := hrel
    by_cases h0 : 0 < t.size
    · have he : t.toList.isEmpty = false := by rw [isEmpty_sz, decide_eq_false (by omega)]
      cases hb : blankB (t[0].toNat : Int)
      · have hT2 := Lib.hid (show tr isBl t.data.toList = T by
          have h := hT.out
          rw [data_cons t h0] at h ⊢
          simpa [tl, List.dropWhile, isBl_eq, hb] using h)
        go_wp2_with (go_at_call 68; refine (blank_any _ _).mono ?_; rintro e w1 ⟨rfl, rfl⟩)
        go_loop [0] (fun v => ∃ u : ByteArray, v = .string u ∧ u.size ≤ s.size ∧ Hid (tr isBl u.data.toList = T)) (fun v => match v with | .string t => t.size | _ => 0)
        case atStart => exact ⟨t, rfl, ht, hT2⟩
        case round =>
          obtain ⟨u, rfl, hu, hU⟩ := hrel
          clear hT hT2 ht he
          by_cases g0 : 0 < u.size
          · have ge : u.toList.isEmpty = false := by rw [isEmpty_sz, decide_eq_false (by omega)]
            cases gb : blankB (u[u.size - 1].toNat : Int)
            · have hN := Lib.hid (show (⟨T.toArray⟩ : ByteArray) = u by
                have h := hU.out
                rw [data_snoc u g0, tr_stop _ _ _ (by rw [isBl_eq, gb]), ← data_snoc u g0] at h
                rw [← h])
              go_wp2_with (go_at_call 68; refine (blank_any _ _).mono ?_; rintro e w1 ⟨rfl, rfl⟩)
              go_ret
              exact ⟨ret_str hN.out.symm, rfl⟩
            · have hN := Lib.hid (show tr isBl (u.extract 0 (u.size - 1)).data.toList = T by
                have h := hU.out
                rw [data_snoc u g0, tr_snoc _ _ _ (by rw [isBl_eq, gb])] at h
                exact h)
              go_wp2_with (go_at_call 68; refine (blank_any _ _).mono ?_; rintro e w1 ⟨rfl, rfl⟩)
              go_round
              case rel => exact ⟨_, rfl, by simp; omega, hN⟩
              case measure => simp; omega
          · have ge : u.toList.isEmpty = true := by rw [isEmpty_sz, decide_eq_true (by omega)]
            have hN := Lib.hid (show (⟨T.toArray⟩ : ByteArray) = u by
              have h := hU.out
              have hn : u.data.toList = [] := List.eq_nil_of_length_eq_zero (by rw [len_sz]; omega)
              rw [hn] at h
              rw [← h]
              apply Go.WideShapes.bytes_inj
              rw [hn]; rfl)
            go_wp2
            go_ret
            exact ⟨ret_str hN.out.symm, rfl⟩
      · have hN := Lib.hid (show tr isBl (tl isBl (t.extract 1 t.size).data.toList) = T by
          have h := hT.out
          rw [data_cons t h0] at h
          simpa [tl, List.dropWhile, isBl_eq, hb] using h)
        go_wp2_with (go_at_call 68; refine (blank_any _ _).mono ?_; rintro e w1 ⟨rfl, rfl⟩)
        go_round
        case rel => exact ⟨_, rfl, by simp; omega, hN⟩
        case measure => simp; omega
    · have he : t.toList.isEmpty = true := by rw [isEmpty_sz, decide_eq_true (by omega)]
      have hT2 := Lib.hid (show tr isBl t.data.toList = T by
        have h := hT.out
        have hn : t.data.toList = [] := List.eq_nil_of_length_eq_zero (by rw [len_sz]; omega)
        rw [hn] at h ⊢
        exact h)
      go_wp2_with (go_at_call 68; refine (blank_any _ _).mono ?_; rintro e w1 ⟨rfl, rfl⟩)
      go_loop [0] (fun v => ∃ u : ByteArray, v = .string u ∧ u.size ≤ s.size ∧ Hid (tr isBl u.data.toList = T)) (fun v => match v with | .string t => t.size | _ => 0)
      case atStart => exact ⟨t, rfl, ht, hT2⟩
      case round =>
        obtain ⟨u, rfl, hu, hU⟩ := hrel
        clear hT hT2 ht he
        by_cases g0 : 0 < u.size
        · have ge : u.toList.isEmpty = false := by rw [isEmpty_sz, decide_eq_false (by omega)]
          cases gb : blankB (u[u.size - 1].toNat : Int)
          · have hN := Lib.hid (show (⟨T.toArray⟩ : ByteArray) = u by
              have h := hU.out
              rw [data_snoc u g0, tr_stop _ _ _ (by rw [isBl_eq, gb]), ← data_snoc u g0] at h
              rw [← h])
            go_wp2_with (go_at_call 68; refine (blank_any _ _).mono ?_; rintro e w1 ⟨rfl, rfl⟩)
            go_ret
            exact ⟨ret_str hN.out.symm, rfl⟩
          · have hN := Lib.hid (show tr isBl (u.extract 0 (u.size - 1)).data.toList = T by
              have h := hU.out
              rw [data_snoc u g0, tr_snoc _ _ _ (by rw [isBl_eq, gb])] at h
              exact h)
            go_wp2_with (go_at_call 68; refine (blank_any _ _).mono ?_; rintro e w1 ⟨rfl, rfl⟩)
            go_round
            case rel => exact ⟨_, rfl, by simp; omega, hN⟩
            case measure => simp; omega
        · have ge : u.toList.isEmpty = true := by rw [isEmpty_sz, decide_eq_true (by omega)]
          have hN := Lib.hid (show (⟨T.toArray⟩ : ByteArray) = u by
            have h := hU.out
            have hn : u.data.toList = [] := List.eq_nil_of_length_eq_zero (by rw [len_sz]; omega)
            rw [hn] at h
            rw [← h]
            apply Go.WideShapes.bytes_inj
            rw [hn]; rfl)
          go_wp2
          go_ret
          exact ⟨ret_str hN.out.symm, rfl⟩
theorem info5 : (Tryz.prog.info? 5).map (fun i => (i.zero, i.size, i.bytes)) = some (some (.int .u8 0), 1, 1) := by kernel_rfl
def u8V (b : UInt8) : Value := .int .u8 (b.toNat : Int)
theorem grow_low {B : Nat} {a W w' : World} {ob : Option Nat} (h : Below B a W) (hs : B ≤ W.heap.size) (hg : W.grownBy w' ob) (hob : ∀ b, ob = some b → B ≤ b) : Below B a w' :=
  ⟨hg.os.trans h.os, hg.tape.trans h.tape, hg.output.trans h.output, Nat.le_trans h.size hg.size, fun k hk => (hg.block k (by omega) (fun e => by have := hob k e.symm; omega)).trans (h.block k hk)⟩
theorem lowerB_up (b : UInt8) (h1 : (65 : Int) ≤ (b.toNat : Int)) (h2 : (b.toNat : Int) ≤ 90) : ((lowerB b).toNat : Int) = (b.toNat : Int) + 32 := by
  unfold lowerB
  rw [if_pos ⟨by rw [UInt8.le_iff_toNat_le]; show 65 ≤ b.toNat; omega, by rw [UInt8.le_iff_toNat_le]; show b.toNat ≤ 90; omega⟩, UInt8.toNat_add]
  show (((b.toNat + 32) % 256 : Nat) : Int) = _
  omega
theorem lowerB_id (b : UInt8) (h : ¬ (65 : Int) ≤ (b.toNat : Int) ∨ ¬ (b.toNat : Int) ≤ 90) : ((lowerB b).toNat : Int) = (b.toNat : Int) := by
  unfold lowerB
  rw [if_neg]
  rintro ⟨h1, h2⟩
  rw [UInt8.le_iff_toNat_le] at h1 h2
  have h1 : 65 ≤ b.toNat := h1
  have h2 : b.toNat ≤ 90 := h2
  omega
set_option maxRecDepth 100000 in
set_option maxHeartbeats 1000000 in
theorem refLower_any (s : ByteArray) (hs : s.size ≤ 1099511627776) (w : World) :
    Calls Tryz.prog 54 #[.string s] w fun e w' => e = .returned (.string (lowerS s)) ∧ Below w.heap.size w w' := by
  obtain ⟨i0, hi, hz0, hz1, hz2⟩ := info_parts info5
  go_enter Tryz.func54, Tryz.ntmps54
  go_wp2_with fail
  have hb0 : Below w.heap.size w (w.alloc (.cells #[] 5)) := (Below.refl _ _).alloc (Nat.le_refl _) _
  have ho0 : (w.alloc (.cells #[] 5)).ownsRow w.heap.size 5 1 (.slice (some ⟨w.heap.size, 0, none⟩) 0 0) 0 [] := ⟨rfl, .inr ⟨w.heap.size, 0, #[], rfl, Nat.le_refl _, blk_new _ _, Nat.le_refl _, by decide, rfl, rfl⟩⟩
  have hz : w.heap.size + 1 ≤ (w.alloc (.cells #[] 5)).heap.size := by simp
  generalize w.alloc (.cells #[] 5) = W0 at *
  generalize hg : w.heap.size = g at *
  go_loopw [3, 4] (fun v i wr => ∃ (k : Nat) (v0 : Value), v0 = v ∧ k ≤ s.size ∧ i = .int .i64 k ∧ wr.ownsRow g 5 1 v k ((lowerL (s.data.toList.take k)).map u8V) ∧ Below g w wr) (fun _ i _ => s.size - (intOf i).toNat)
  case atStart => exact ⟨0, _, rfl, Nat.zero_le _, rfl, ho0, hb0⟩
  case round =>
    obtain ⟨k, v, rfl, hk, rfl, hown, hb⟩ := hrel
    by_cases hlt : k < s.size
    · have hx : (s[k].toNat : Int) < 256 := by have := s[k].toNat_lt; omega
      have hnx := Lib.hid (show (lowerL (s.data.toList.take (k + 1))).map u8V = (lowerL (s.data.toList.take k)).map u8V ++ [.int .u8 ((lowerB s[k]).toNat : Int)] by rw [take_snoc s k hlt]; simp [lowerL, u8V])
      have hgw : g ≤ wr.heap.size := by have := hb.size; omega
      by_cases c1 : (65 : Int) ≤ (s[k].toNat : Int)
      · by_cases c2 : (s[k].toNat : Int) ≤ 90
        · go_wp2_with (at_builtin; refine wpList_append_own _ rfl _ _ 78 rfl g 5 i0 (.int .u8 0) 1 1 Tryz.underlying78 hi hz0 hz1 hz2 rfl (by decide) _ _ _ rfl (hown.alloc _) ⟨_, 0, none⟩ 1 1 [.int .u8 ((s[k].toNat : Int) + 32)] rfl rfl (cell_one_new _ _ _) (by simp [Value.oneCell']) (by unfold maxLen; omega) (by omega) (by have := hb.size; simp; omega) ?_; intro v' w1 hown' hgrow _)
          go_roundw
          case rel => exact ⟨k + 1, _, rfl, by omega, by go_num, by rw [hnx.out, lowerB_up _ c1 c2]; exact hown', grow_low (hb.alloc hgw _) (by simp; omega) hgrow (fun b e => (hown.lt b e).1)⟩
          case measure => simp [intOf]; omega
        · go_wp2_with (at_builtin; refine wpList_append_own _ rfl _ _ 78 rfl g 5 i0 (.int .u8 0) 1 1 Tryz.underlying78 hi hz0 hz1 hz2 rfl (by decide) _ _ _ rfl (hown.alloc _) ⟨_, 0, none⟩ 1 1 [.int .u8 (s[k].toNat : Int)] rfl rfl (cell_one_new _ _ _) (by simp [Value.oneCell']) (by unfold maxLen; omega) (by omega) (by have := hb.size; simp; omega) ?_; intro v' w1 hown' hgrow _)
          go_roundw
          case rel => exact ⟨k + 1, _, rfl, by omega, by go_num, by rw [hnx.out, lowerB_id _ (.inr c2)]; exact hown', grow_low (hb.alloc hgw _) (by simp; omega) hgrow (fun b e => (hown.lt b e).1)⟩
          case measure => simp [intOf]; omega
      · go_wp2_with (at_builtin; refine wpList_append_own _ rfl _ _ 78 rfl g 5 i0 (.int .u8 0) 1 1 Tryz.underlying78 hi hz0 hz1 hz2 rfl (by decide) _ _ _ rfl (hown.alloc _) ⟨_, 0, none⟩ 1 1 [.int .u8 (s[k].toNat : Int)] rfl rfl (cell_one_new _ _ _) (by simp [Value.oneCell']) (by unfold maxLen; omega) (by omega) (by have := hb.size; simp; omega) ?_; intro v' w1 hown' hgrow _)
        go_roundw
        case rel => exact ⟨k + 1, _, rfl, by omega, by go_num, by rw [hnx.out, lowerB_id _ (.inl c1)]; exact hown', grow_low (hb.alloc hgw _) (by simp; omega) hgrow (fun b e => (hown.lt b e).1)⟩
        case measure => simp [intOf]; omega
    · have hke : k = s.size := by omega
      subst hke
      have ht : s.data.toList.take s.size = s.data.toList := List.take_of_length_le (by simp)
      rw [ht] at hown
      have hown0 := hown
      rcases hown.2 with ⟨rfl, h1⟩ | ⟨g', cap, cur, rfl, h3, h4, h5⟩
      · have h0 : s.data.toList = [] := by
          exact List.eq_nil_of_length_eq_zero (by simpa using h1)
        have HL := Lib.hid (show lowerS s = ⟨#[]⟩ by unfold lowerS; rw [h0]; rfl)
        clear h0 h1 ht
        have hback : ∀ W : World, (convert 78 9 (.slice none 0 0)).run Tryz.prog W = .ok (.string ⟨#[]⟩) W := fun W => by
          rw [run_convert_bytes_string W 78 9 5 none 0 0 Tryz.underlying78 Tryz.underlying5 Tryz.underlying9]; rfl
        go_wp2_with fail
        go_ret
        exact ⟨ret_str HL.out.symm, by rw [hg]; exact hb⟩
      · have hcells := hown0.cells (g := g') rfl
        have hback := run_convert_bytes_back (P := Tryz.prog) _ 78 9 5 ⟨g', 0, none⟩ cap (lowerL s.data.toList) Tryz.underlying78 Tryz.underlying5 Tryz.underlying9 (fun j hj => hcells j _ (by simp [u8V, hj]))
        have hll : (lowerL s.data.toList).length = s.size := by simp [lowerL]
        rw [hll] at hback
        clear h3 h4 h5 hown0 hown ht
        go_wp2_with fail
        go_ret
        exact ⟨rfl, by rw [hg]; exact hb⟩
theorem below_drewN {B : Nat} {a w : World} {n : Nat} (h : Below B a w) : Below B a (w.drewN n) := ⟨h.os, h.tape, h.output, h.size, h.block⟩
def cutS (n : Nat) (s : ByteArray) : ByteArray := ⟨(s.data.toList.take n).toArray⟩
theorem cutS_size (n : Nat) (s : ByteArray) : (cutS n s).size ≤ n := by
  show (cutS n s).data.size ≤ n
  unfold cutS; rw [List.size_toArray, List.length_take]; omega
theorem cutS_id {n : Nat} {s : ByteArray} (h : s.size ≤ n) : cutS n s = s := by
  unfold cutS; rw [List.take_of_length_le (by simpa using h)]
theorem cut_any (s : ByteArray) (n : Nat) (w : World) :
    Calls Tryz.prog 6 #[.string s, .int .i64 n] w fun e w' => e = .returned (.string (cutS n s)) ∧ w = w' := by
  go_enter Tryz.func6, Tryz.ntmps6
  by_cases h : (n : Int) < s.size
  · go_wp2_with fail
    go_ret
    exact ⟨ret_str (ba_take s n), rfl⟩
  · go_wp2_with fail
    go_ret
    exact ⟨ret_str (cutS_id (by omega)).symm, rfl⟩
theorem l0 : lowerS ⟨#[97, 66]⟩ = ⟨#[97, 98]⟩ := by decide +kernel
theorem l1 : listS [⟨#[97, 44, 32, 98]⟩, ⟨#[44, 99]⟩] = [⟨#[97]⟩, ⟨#[98]⟩, ⟨#[99]⟩] := by decide +kernel
/-- A text in two cells, new. -/
theorem ownStrs_new (w : World) (xs : List ByteArray) (hN : xs.length ≤ 140737488355328) : OwnStrs (w.alloc (.cells (xs.map Value.string).toArray 9)) w.heap.size (.slice (some ⟨w.heap.size, 0, none⟩) xs.length xs.length) xs :=
  ⟨by simp, .inr ⟨w.heap.size, xs.length, (xs.map Value.string).toArray, rfl, Nat.le_refl _, blk_new _ _, Nat.le_refl _, by unfold maxLen; omega, by simp, by simpa using List.take_of_length_le (by simp)⟩⟩
set_option maxHeartbeats 1000000 in
theorem fold_any (a b : ByteArray) (ha : a.size ≤ maxLen) (hb : b.size ≤ maxLen) (w : World) :
    Calls Tryz.prog 57 #[.string a, .string b] w fun e w' => e = .returned (.bool ((lowerS a).toList == (lowerS b).toList)) ∧ Below w.heap.size w w' := by
  go_enter Tryz.func57, Tryz.ntmps57
  go_wp2_with (go_at_call 40; first | (with_reducible refine (lower_any a ha _).mono ?_; rintro e w1 ⟨rfl, hb1⟩; replace hb1 := Lib.hid hb1) | (with_reducible refine (lower_any b hb _).mono ?_; rintro e w2 ⟨rfl, hb2⟩; replace hb2 := Lib.hid hb2))
  go_ret
  exact ⟨rfl, hb1.out.trans (hb2.out.mono hb1.out.size)⟩
theorem lowerB_idem : ∀ b : UInt8, lowerB (lowerB b) = lowerB b := by
  have h : ∀ x : Fin 256, lowerB (lowerB (UInt8.ofNat x.val)) = lowerB (UInt8.ofNat x.val) := by decide +kernel
  intro b
  have := h ⟨b.toNat, b.toNat_lt⟩
  simpa only [UInt8.ofNat_toNat] using this
theorem lowerS_idem (s : ByteArray) : lowerS (lowerS s) = lowerS s := by
  unfold lowerS lowerL
  simp only [List.map_map]
  congr 2
  apply List.map_congr_left
  intro x _
  exact lowerB_idem x
theorem lowerS_size (s : ByteArray) : (lowerS s).size = s.size := by
  show (lowerS s).data.size = s.data.size
  unfold lowerS lowerL
  simp
theorem parts_ne (l : List UInt8) : parts l ≠ [] := by
  cases l with
  | nil => simp [parts]
  | cons x r => rw [parts_cons]; split; simp; split <;> simp
theorem parts_app (a b : List UInt8) : parts (a ++ 44 :: b) = parts a ++ parts b := by
  induction a with
  | nil => rw [List.nil_append, parts_cons, if_pos rfl]; rfl
  | cons x r ih =>
    rw [List.cons_append, parts_cons, parts_cons, ih]
    by_cases hx : x = 44
    · rw [if_pos hx, if_pos hx]; rfl
    · rw [if_neg hx, if_neg hx]
      cases hp : parts r with
      | nil => exact absurd hp (parts_ne r)
      | cons p q => rfl
theorem parts_seg {l : List UInt8} (h : l.all (fun x => x != 44) = true) : parts l = [l] := by
  induction l with
  | nil => rfl
  | cons x r ih =>
    rw [List.all_cons, Bool.and_eq_true] at h
    rw [parts_cons, if_neg (by simpa using h.1), ih h.2]
theorem keepL_app (a b : List (List UInt8)) : keepL (a ++ b) = keepL a ++ keepL b := by simp [keepL]
theorem join_two (x y : List UInt8) (r : List (List UInt8)) : Lib.join (x :: y :: r) [44] = x ++ 44 :: Lib.join (y :: r) [44] := by simp [Lib.join]
/-- What all the texts' parts keep. -/
def eachL (l : List (List UInt8)) : List (List UInt8) := l.flatMap (fun x => keepL (parts x))
theorem listL_each (l : List (List UInt8)) : listL l = eachL l := by
  unfold listL eachL
  match l with
  | [] => decide +kernel
  | [x] => simp [Lib.join]
  | x :: y :: r =>
    rw [join_two, parts_app, keepL_app, List.flatMap_cons]
    have ih := listL_each (y :: r)
    unfold listL eachL at ih
    rw [ih]
/-- A part begins at 'f' and is read up to 'i': what is parted so far, and what is to come. -/
theorem part_more {l : List UInt8} {f i : Nat} (hf : f ≤ i) (hi : i < l.length) (hx : l[i] ≠ 44) (h : ((l.take i).drop f).all (fun x => x != 44) = true) : ((l.take (i + 1)).drop f).all (fun x => x != 44) = true := by
  rw [List.take_succ_eq_append_getElem hi, List.drop_append_of_le_length (by simp; omega), List.all_append, h]
  simp [hx]
theorem part_eq {l : List UInt8} {f i : Nat} (hf : f ≤ i) (hi : i ≤ l.length) : l.drop f = (l.take i).drop f ++ l.drop i := by
  conv => lhs; rw [← List.take_append_drop i l]
  rw [List.drop_append_of_le_length (by simp; omega)]
theorem part_at {l : List UInt8} {f i : Nat} (hf : f ≤ i) (hi : i < l.length) (hx : l[i] = 44) (h : ((l.take i).drop f).all (fun x => x != 44) = true) : parts (l.drop f) = (l.take i).drop f :: parts (l.drop (i + 1)) := by
  rw [part_eq hf (by omega), List.drop_eq_getElem_cons hi, hx, parts_app, parts_seg h]; rfl
theorem part_last {l : List UInt8} {f : Nat} (h : ((l.take l.length).drop f).all (fun x => x != 44) = true) : parts (l.drop f) = [(l.take l.length).drop f] := by
  rw [List.take_of_length_le (by omega)] at h ⊢
  exact parts_seg h
theorem ba_cut (s : ByteArray) (f i : Nat) : s.extract f i = ⟨((s.data.toList.take i).drop f).toArray⟩ := by
  apply Go.WideShapes.bytes_inj
  simp [List.drop_take]
theorem flat_snoc (xs : List ByteArray) (k : Nat) (h : k < xs.length) : eachL ((xs.take (k + 1)).map (·.data.toList)) = eachL ((xs.take k).map (·.data.toList)) ++ keepL (parts xs[k].data.toList) := by
  rw [List.take_succ_eq_append_getElem h]; rw [List.map_append]; simp [eachL]
set_option maxRecDepth 100000 in
set_option maxHeartbeats 12000000 in
theorem refList_any (xs : List ByteArray) (v : Value) (w : World) (hv : Strs w v xs) (hN : xs.length ≤ 100) (hZ : ∀ x ∈ xs, x.size ≤ 1000) :
    Calls Tryz.prog 53 #[v] w fun e w' => ∃ u, e = .returned u ∧ OwnStrs w' w.heap.size u (listS xs) ∧ Below w.heap.size w w' := by
  obtain ⟨i0, hi, hz0, hz1, hz2⟩ := info_parts info9
  obtain ⟨A, c, rfl, hc, hr⟩ := hv
  go_enter Tryz.func53, Tryz.ntmps53
  go_wp2_with fail
  have hb0 : Below w.heap.size w (w.alloc (.cells #[] 9)) := (Below.refl _ _).alloc (Nat.le_refl _) _
  have ho0 : (w.alloc (.cells #[] 9)).ownsRow w.heap.size 9 1 (.slice (some ⟨w.heap.size, 0, none⟩) 0 0) 0 [] := ⟨rfl, .inr ⟨w.heap.size, 0, #[], rfl, Nat.le_refl _, blk_new _ _, Nat.le_refl _, by decide, rfl, rfl⟩⟩
  have hz : w.heap.size + 1 ≤ (w.alloc (.cells #[] 9)).heap.size := by simp
  generalize w.alloc (.cells #[] 9) = W0 at *
  generalize hg : w.heap.size = g at *
  go_loopw [3, 12] (fun u i wr => ∃ (k : Nat) (u0 : Value) (K : List (List UInt8)), u0 = u ∧ k ≤ xs.length ∧ i = .int .i64 k ∧ wr.ownsRow g 9 1 u K.length (K.map strV) ∧ Hid (K = eachL ((xs.take k).map (·.data.toList))) ∧ K.length ≤ 1001 * k ∧ Below g w wr) (fun _ i _ => xs.length - (intOf i).toNat)
  case atStart => exact ⟨0, _, [], rfl, Nat.zero_le _, rfl, ho0, Lib.hid rfl, Nat.zero_le _, hb0⟩
  case round =>
    obtain ⟨k, u, K, rfl, hk, rfl, hown, hK, hKl, hb⟩ := hrel
    by_cases c1 : k < xs.length
    · obtain ⟨b, o, rfl, hlt, hx⟩ := hr (by omega)
      have hc0 := (hb.cell (p := ⟨b, o + k, none⟩) (by omega)).trans (hx k xs[k] (by simp [c1]))
      have hsz : xs[k].size ≤ 1000 := hZ _ (by simp)
      have hfl := Lib.hid (flat_snoc xs k c1)
      generalize hs : xs[k] = s at *
      go_wp2_with fail
      go_loopw [6, 7, 3] (fun fv iv u wr2 => ∃ (f j : Nat) (u0 : Value) (D K2 : List (List UInt8)), u0 = u ∧ fv = .int .i64 f ∧ iv = .int .i64 j ∧ f ≤ j ∧ j ≤ s.size + 1 ∧ (j ≤ s.size ∨ f = j) ∧ Hid (((s.data.toList.take j).drop f).all (fun x => x != 44) = true) ∧ Hid (parts s.data.toList = D ++ (if f ≤ s.size then parts (s.data.toList.drop f) else [])) ∧ wr2.ownsRow g 9 1 u K2.length (K2.map strV) ∧ Hid (K2 = K ++ keepL D) ∧ K2.length ≤ 1001 * k + j ∧ Below g w wr2) (fun _ i _ _ => s.size + 1 - (intOf i).toNat)
      case atStart => exact ⟨0, 0, _, [], K, rfl, rfl, rfl, Nat.le_refl _, by omega, .inl (Nat.zero_le _), Lib.hid rfl, Lib.hid (by rw [if_pos (Nat.zero_le _)]; rfl), hown, Lib.hid (by simp [keepL]), by omega, hb⟩
      case round =>
        obtain ⟨f, j, u2, D, K2, rfl, rfl, rfl, hfj, hj, hor, hseg, hpt, hown2, hK2, hK2l, hb2⟩ := hrel
        by_cases c2 : j ≤ s.size
        · by_cases c3 : j < s.size
          · have hb8 : (s[j].toNat : Int) < 256 := by have := s[j].toNat_lt; omega
            by_cases c4 : (s[j].toNat : Int) = 44
            · have hx44 : s[j] = 44 := by apply UInt8.toNat_inj.1; have : s[j].toNat = 44 := by omega
                                          rw [this]; rfl
              have HPt := Lib.hid (show parts s.data.toList = (D ++ [(s.data.toList.take j).drop f]) ++ (if j + 1 ≤ s.size then parts (s.data.toList.drop (j + 1)) else []) by
                rw [hpt.out, if_pos (show f ≤ s.size by omega), if_pos (show j + 1 ≤ s.size by omega), part_at hfj (by rw [len_sz]; exact c3) (by rw [Array.getElem_toList]; exact hx44) hseg.out]; simp)
              have HS0 := Lib.hid (show ((s.data.toList.take (j + 1)).drop (j + 1)).all (fun x => x != 44) = true by rw [List.drop_eq_nil_of_le (by first | (simp; done) | (simp; omega))]; rfl)
              obtain ⟨L, hL⟩ : ∃ L, trimL ((s.data.toList.take j).drop f) = L := ⟨_, rfl⟩
              have hsn := Lib.hid (keepL_snoc D ((s.data.toList.take j).drop f))
              rw [hL] at hsn
              have hex : (s.extract f j).size ≤ maxLen := by unfold maxLen; simp; omega
              obtain ⟨P, hP⟩ : ∃ P, trimS (s.extract f j) = P := ⟨_, rfl⟩
              have hPL : P = ⟨L.toArray⟩ := by rw [← hP, ba_cut, trimS_mk, hL]
              have d1 := fun W => hP ▸ refTrim_any (s.extract f j) hex W
              clear hP hex hL
              cases he : L.isEmpty
              · have he2 : P.toList.isEmpty = false := by rw [hPL, Lib.toList_data]; exact he
                have HE := Lib.hid he
                have HPL := Lib.hid hPL
                clear he hPL
                have HK2 := Lib.hid (show K2 ++ [L] = K ++ keepL (D ++ [(s.data.toList.take j).drop f]) by rw [hK2.out, hsn.out, HE.out]; simp)
                have HKV := Lib.hid (show (K2 ++ [L]).map strV = K2.map strV ++ [.string P] by rw [HPL.out, List.map_append]; rfl)
                have hgw : g ≤ wr.heap.size := by have := hb2.size; omega
                clear hsn
                go_wp2_with (first | (go_at_call 62; with_reducible refine (d1 _).mono ?_; rintro e w1 ⟨rfl, rfl⟩) | (at_builtin; refine wpList_append_own _ rfl _ _ 53 rfl g 9 i0 (.string ⟨#[]⟩) 1 16 Tryz.underlying53 hi hz0 hz1 hz2 rfl (by decide) _ _ _ rfl (hown2.alloc _) ⟨_, 0, none⟩ 1 1 [.string P] rfl rfl (cell_one_new _ _ _) (by simp [Value.oneCell']) (by unfold maxLen; omega) (by omega) (by have := hb2.size; simp; omega) ?_; intro v' w1 hown' hgrow _))
                go_roundw
                case rel => exact ⟨j + 1, j + 1, _, D ++ [(s.data.toList.take j).drop f], K2 ++ [L], rfl, by go_num, by go_num, Nat.le_refl _, by omega, .inr rfl, HS0, HPt, by rw [List.length_append, HKV.out]; exact hown', HK2, by rw [List.length_append]; simp; omega, grow_low (hb2.alloc hgw _) (by simp; omega) hgrow (fun b e => (hown2.lt b e).1)⟩
                case measure => first | (simp [intOf]; done) | (simp [intOf]; omega)
              · have he2 : P.toList.isEmpty = true := by rw [hPL, Lib.toList_data]; exact he
                have HE := Lib.hid he
                have HPL := Lib.hid hPL
                clear he hPL
                have HK2 := Lib.hid (show K2 = K ++ keepL (D ++ [(s.data.toList.take j).drop f]) by rw [hK2.out, hsn.out, HE.out]; simp)
                have hgw : g ≤ wr.heap.size := by have := hb2.size; omega
                clear hsn
                go_wp2_with (first | (go_at_call 62; with_reducible refine (d1 _).mono ?_; rintro e w1 ⟨rfl, rfl⟩))
                go_roundw
                case rel => exact ⟨j + 1, j + 1, _, D ++ [(s.data.toList.take j).drop f], K2, rfl, by go_num, by go_num, Nat.le_refl _, by omega, .inr rfl, HS0, HPt, hown2, HK2, by omega, hb2⟩
                case measure => first | (simp [intOf]; done) | (simp [intOf]; omega)
            · have hne : s[j] ≠ 44 := by intro e; rw [e] at c4; exact c4 rfl
              have HSg := Lib.hid (part_more hfj (by rw [len_sz]; exact c3) (by rw [Array.getElem_toList]; exact hne) hseg.out)
              clear hne
              go_wp2_with fail
              go_roundw
              case rel => exact ⟨f, j + 1, _, D, K2, rfl, rfl, by go_num, by omega, by omega, .inl (by omega), HSg, hpt, hown2, hK2, by omega, hb2⟩
              case measure => simp [intOf]; omega
          · have hje : j = s.size := by omega
            subst hje
            have HPt := Lib.hid (show parts s.data.toList = (D ++ [(s.data.toList.take s.size).drop f]) ++ (if s.size + 1 ≤ s.size then parts (s.data.toList.drop (s.size + 1)) else []) by
              rw [hpt.out, if_pos (show f ≤ s.size by omega), if_neg (by omega)]
              have hj : s.size = s.data.toList.length := by rw [len_sz]
              have h := hseg.out
              rw [hj] at h ⊢
              rw [part_last h]; simp)
            have HS0 := Lib.hid (show ((s.data.toList.take (s.size + 1)).drop (s.size + 1)).all (fun x => x != 44) = true by rw [List.drop_eq_nil_of_le (by first | (simp; done) | (simp; omega))]; rfl)
            obtain ⟨L, hL⟩ : ∃ L, trimL ((s.data.toList.take s.size).drop f) = L := ⟨_, rfl⟩
            have hsn := Lib.hid (keepL_snoc D ((s.data.toList.take s.size).drop f))
            rw [hL] at hsn
            have hex : (s.extract f s.size).size ≤ maxLen := by unfold maxLen; simp; omega
            obtain ⟨P, hP⟩ : ∃ P, trimS (s.extract f s.size) = P := ⟨_, rfl⟩
            have hPL : P = ⟨L.toArray⟩ := by rw [← hP, ba_cut, trimS_mk, hL]
            have d1 := fun W => hP ▸ refTrim_any (s.extract f s.size) hex W
            clear hP hex hL
            cases he : L.isEmpty
            · have he2 : P.toList.isEmpty = false := by rw [hPL, Lib.toList_data]; exact he
              have HE := Lib.hid he
              have HPL := Lib.hid hPL
              clear he hPL
              have HK2 := Lib.hid (show K2 ++ [L] = K ++ keepL (D ++ [(s.data.toList.take s.size).drop f]) by rw [hK2.out, hsn.out, HE.out]; simp)
              have HKV := Lib.hid (show (K2 ++ [L]).map strV = K2.map strV ++ [.string P] by rw [HPL.out, List.map_append]; rfl)
              have hgw : g ≤ wr.heap.size := by have := hb2.size; omega
              clear hsn
              go_wp2_with (first | (go_at_call 62; with_reducible refine (d1 _).mono ?_; rintro e w1 ⟨rfl, rfl⟩) | (at_builtin; refine wpList_append_own _ rfl _ _ 53 rfl g 9 i0 (.string ⟨#[]⟩) 1 16 Tryz.underlying53 hi hz0 hz1 hz2 rfl (by decide) _ _ _ rfl (hown2.alloc _) ⟨_, 0, none⟩ 1 1 [.string P] rfl rfl (cell_one_new _ _ _) (by simp [Value.oneCell']) (by unfold maxLen; omega) (by omega) (by have := hb2.size; simp; omega) ?_; intro v' w1 hown' hgrow _))
              go_roundw
              case rel => exact ⟨s.size + 1, s.size + 1, _, D ++ [(s.data.toList.take s.size).drop f], K2 ++ [L], rfl, by go_num, by go_num, Nat.le_refl _, by omega, .inr rfl, HS0, HPt, by rw [List.length_append, HKV.out]; exact hown', HK2, by rw [List.length_append]; simp; omega, grow_low (hb2.alloc hgw _) (by simp; omega) hgrow (fun b e => (hown2.lt b e).1)⟩
              case measure => first | (simp [intOf]; done) | (simp [intOf]; omega)
            · have he2 : P.toList.isEmpty = true := by rw [hPL, Lib.toList_data]; exact he
              have HE := Lib.hid he
              have HPL := Lib.hid hPL
              clear he hPL
              have HK2 := Lib.hid (show K2 = K ++ keepL (D ++ [(s.data.toList.take s.size).drop f]) by rw [hK2.out, hsn.out, HE.out]; simp)
              have hgw : g ≤ wr.heap.size := by have := hb2.size; omega
              clear hsn
              go_wp2_with (first | (go_at_call 62; with_reducible refine (d1 _).mono ?_; rintro e w1 ⟨rfl, rfl⟩))
              go_roundw
              case rel => exact ⟨s.size + 1, s.size + 1, _, D ++ [(s.data.toList.take s.size).drop f], K2, rfl, by go_num, by go_num, Nat.le_refl _, by omega, .inr rfl, HS0, HPt, hown2, HK2, by omega, hb2⟩
              case measure => first | (simp [intOf]; done) | (simp [intOf]; omega)
        · have hje : j = s.size + 1 := by omega
          have hfe : f = j := by omega
          have HKn := Lib.hid (show K2 = eachL ((xs.take (k + 1)).map (·.data.toList)) by rw [hfl.out, hK2.out, hK.out, hpt.out, if_neg (by omega), List.append_nil])
          go_wp2_with fail
          go_roundw
          case rel => exact ⟨k + 1, _, K2, rfl, by omega, by go_num, hown2, HKn, by omega, hb2⟩
          case measure => simp [intOf]; omega
    · have hke : k = xs.length := by omega
      subst hke
      have HF := Lib.hid (show K = listL (xs.map (·.data.toList)) by rw [hK.out, List.take_of_length_le (by omega), listL_each])
      go_wp2_with fail
      go_ret
      refine ⟨u, rfl, ?_, ?_⟩ <;> (try rw [hg])
      · unfold OwnStrs listS
        rw [← HF.out]
        have e1 : (K.map (fun p => (⟨p.toArray⟩ : ByteArray))).map Value.string = K.map strV := by simp [strV]
        rw [e1, List.length_map]
        exact hown
      · exact hb
def mk (l : List UInt8) : ByteArray := ⟨l.toArray⟩
theorem mk_data (s : ByteArray) : mk s.data.toList = s := ba_mk s
/-- The codes and their words. -/
def saidL : List (Int × List UInt8) := [(200, [79, 75]), (400, [66, 97, 100, 32, 82, 101, 113, 117, 101, 115, 116]), (413, [67, 111, 110, 116, 101, 110, 116, 32, 84, 111, 111, 32, 76, 97, 114, 103, 101]), (431, [82, 101, 113, 117, 101, 115, 116, 32, 72, 101, 97, 100, 101, 114, 32, 70, 105, 101, 108, 100, 115, 32, 84, 111, 111, 32, 76, 97, 114, 103, 101]), (502, [66, 97, 100, 32, 71, 97, 116, 101, 119, 97, 121]), (503, [83, 101, 114, 118, 105, 99, 101, 32, 85, 110, 97, 118, 97, 105, 108, 97, 98, 108, 101]), (504, [71, 97, 116, 101, 119, 97, 121, 32, 84, 105, 109, 101, 111, 117, 116])]
def saidData : DataW Unit := .agg (saidL.map fun z => .agg [.lit (.int .i64 z.1), .lit (.string z.2)])
/-- The table of words holds them. -/
structure SEnv (w : World) : Prop extends Env w where
  said : ∀ i z, saidL[i]? = some z → w.cell? ⟨1, 2 * i, none⟩ = some (.int .i64 z.1) ∧ w.cell? ⟨1, 2 * i + 1, none⟩ = some (.string (mk z.2))
theorem SEnv.below {w w' : World} (h : SEnv w) (hb : Below w.heap.size w w') : SEnv w' := by
  refine ⟨h.toEnv.below hb, fun i z hz => ?_⟩
  obtain ⟨h1, h2⟩ := h.said i z hz
  have hlt : 1 < w.heap.size := World.block_lt_of_cell? w ⟨1, 2 * i, none⟩ h1
  exact ⟨(hb.cell (p := ⟨1, 2 * i, none⟩) hlt).trans h1, (hb.cell (p := ⟨1, 2 * i + 1, none⟩) hlt).trans h2⟩
theorem said_cells {W : World} {rest : List (String × DataW Unit)} (h : laidMet Tryz.prog (("steward/start.reasons", saidData) :: rest) W) :
    ∀ i z, saidL[i]? = some z → W.cell? ⟨1, 2 * i, none⟩ = some (.int .i64 z.1) ∧ W.cell? ⟨1, 2 * i + 1, none⟩ = some (.string (mk z.2)) := by
  obtain ⟨ps, ⟨g', t', cs, fuel, p, q, hg', ht', hvar, hd, _, _⟩, _⟩ := h
  obtain rfl : 1 = g' := Option.some.inj ((show Tryz.prog.globalNamed "steward/start.reasons" = some 1 by kernel_rfl).symm.trans hg')
  obtain rfl : 93 = t' := Option.some.inj ((show (Tryz.prog.globals[1]?).map (·.type) = some 93 by kernel_rfl).symm.trans ht')
  intro i z hz
  have hi : i < 7 := (List.getElem?_eq_some_iff.1 hz).1
  obtain ⟨xs, m, _, hx, hl, hlen, hat⟩ := DataW.trod_array Tryz.underlying93 hd
  have hc2 : Tryz.prog.cellsOf 92 = 2 := by kernel_rfl
  have h1 := hat i hi
  rw [hc2, List.getElem?_eq_getElem (by omega)] at h1
  obtain ⟨y0, y1, n, hy, hly, e0, e1⟩ := trod_struct2 Tryz.underlying92 h1
  obtain ⟨c0, hc0, rfl, _⟩ := DataW.trod_int Tryz.underlying3 e0
  obtain ⟨c1, hc1, rfl, _⟩ := DataW.trod_string Tryz.underlying9 e1
  have hxi : (xs.map (·.1))[i]? = some (.agg [.lit (.int .i64 z.1), .lit (.string z.2)]) := by
    have := congrArg Prod.fst hx
    simp only [saidData, DataW.agg.injEq] at this
    rw [← this, List.getElem?_map, hz]; rfl
  rw [List.getElem?_map, List.getElem?_eq_getElem (by omega), Option.map_some, hy] at hxi
  simp only [Option.some.injEq, DataW.agg.injEq, List.cons.injEq, DataW.lit.injEq, Lit.int.injEq, Lit.string.injEq, true_and, and_true] at hxi
  obtain ⟨rfl, h2⟩ := hxi
  have g0 : cs[2 * i]? = some (.int .i64 z.1) := by
    have := congrArg (·[0]?) hc0
    simp [List.getElem?_take, List.getElem?_drop] at this
    rw [show 2 * i = i * 2 by omega]; exact this.2
  have g1 : cs[2 * i + 1]? = some (.string c1) := by
    have := congrArg (·[0]?) hc1
    simp [List.getElem?_take, List.getElem?_drop] at this
    rw [show 2 * i + 1 = i * 2 + 1 by omega]; exact this.2
  have v0 := World.var?_cell (g := 1) (by kernel_rfl) hvar (2 * i)
  have v1 := World.var?_cell (g := 1) (by kernel_rfl) hvar (2 * i + 1)
  refine ⟨by rw [v0]; simpa using g0, by rw [v1, ← h2, mk_data]; simpa using g1⟩
/-- A code's words. -/
def reasonS (code : Int) : ByteArray := if code = 200 then mk [79, 75] else if code = 400 then mk [66, 97, 100, 32, 82, 101, 113, 117, 101, 115, 116] else if code = 413 then mk [67, 111, 110, 116, 101, 110, 116, 32, 84, 111, 111, 32, 76, 97, 114, 103, 101] else if code = 431 then mk [82, 101, 113, 117, 101, 115, 116, 32, 72, 101, 97, 100, 101, 114, 32, 70, 105, 101, 108, 100, 115, 32, 84, 111, 111, 32, 76, 97, 114, 103, 101] else if code = 502 then mk [66, 97, 100, 32, 71, 97, 116, 101, 119, 97, 121] else if code = 503 then mk [83, 101, 114, 118, 105, 99, 101, 32, 85, 110, 97, 118, 97, 105, 108, 97, 98, 108, 101] else if code = 504 then mk [71, 97, 116, 101, 119, 97, 121, 32, 84, 105, 109, 101, 111, 117, 116] else ⟨#[]⟩
def NotYet (k : Nat) (code : Int) : Prop := ∀ j, j < k → ∀ z, saidL[j]? = some z → code ≠ z.1
theorem NotYet.next {k : Nat} {code c : Int} {l : List UInt8} (h : NotYet k code) (hz : saidL[k]? = some (c, l)) (hc : code ≠ c) : NotYet (k + 1) code := by
  intro j hj z hjz
  by_cases e : j = k
  · subst e
    rw [hz] at hjz
    cases hjz
    exact hc
  · exact h j (by omega) z hjz
theorem NotYet.all {code : Int} (h : NotYet 7 code) : reasonS code = ⟨#[]⟩ := by
  unfold reasonS
  rw [if_neg (h 0 (by decide) _ rfl)]
  rw [if_neg (h 1 (by decide) _ rfl)]
  rw [if_neg (h 2 (by decide) _ rfl)]
  rw [if_neg (h 3 (by decide) _ rfl)]
  rw [if_neg (h 4 (by decide) _ rfl)]
  rw [if_neg (h 5 (by decide) _ rfl)]
  rw [if_neg (h 6 (by decide) _ rfl)]
theorem index0 (W : World) : (Instr.index 93 (.agg #[.int .i64 200, .string (mk [79, 75]), .int .i64 400, .string (mk [66, 97, 100, 32, 82, 101, 113, 117, 101, 115, 116]), .int .i64 413, .string (mk [67, 111, 110, 116, 101, 110, 116, 32, 84, 111, 111, 32, 76, 97, 114, 103, 101]), .int .i64 431, .string (mk [82, 101, 113, 117, 101, 115, 116, 32, 72, 101, 97, 100, 101, 114, 32, 70, 105, 101, 108, 100, 115, 32, 84, 111, 111, 32, 76, 97, 114, 103, 101]), .int .i64 502, .string (mk [66, 97, 100, 32, 71, 97, 116, 101, 119, 97, 121]), .int .i64 503, .string (mk [83, 101, 114, 118, 105, 99, 101, 32, 85, 110, 97, 118, 97, 105, 108, 97, 98, 108, 101]), .int .i64 504, .string (mk [71, 97, 116, 101, 119, 97, 121, 32, 84, 105, 109, 101, 111, 117, 116])]) (.int .i64 0)).run Tryz.prog W = .ok (.agg #[.int .i64 200, .string (mk [79, 75])]) W := by kernel_rfl
theorem index1 (W : World) : (Instr.index 93 (.agg #[.int .i64 200, .string (mk [79, 75]), .int .i64 400, .string (mk [66, 97, 100, 32, 82, 101, 113, 117, 101, 115, 116]), .int .i64 413, .string (mk [67, 111, 110, 116, 101, 110, 116, 32, 84, 111, 111, 32, 76, 97, 114, 103, 101]), .int .i64 431, .string (mk [82, 101, 113, 117, 101, 115, 116, 32, 72, 101, 97, 100, 101, 114, 32, 70, 105, 101, 108, 100, 115, 32, 84, 111, 111, 32, 76, 97, 114, 103, 101]), .int .i64 502, .string (mk [66, 97, 100, 32, 71, 97, 116, 101, 119, 97, 121]), .int .i64 503, .string (mk [83, 101, 114, 118, 105, 99, 101, 32, 85, 110, 97, 118, 97, 105, 108, 97, 98, 108, 101]), .int .i64 504, .string (mk [71, 97, 116, 101, 119, 97, 121, 32, 84, 105, 109, 101, 111, 117, 116])]) (.int .i64 1)).run Tryz.prog W = .ok (.agg #[.int .i64 400, .string (mk [66, 97, 100, 32, 82, 101, 113, 117, 101, 115, 116])]) W := by kernel_rfl
theorem index2 (W : World) : (Instr.index 93 (.agg #[.int .i64 200, .string (mk [79, 75]), .int .i64 400, .string (mk [66, 97, 100, 32, 82, 101, 113, 117, 101, 115, 116]), .int .i64 413, .string (mk [67, 111, 110, 116, 101, 110, 116, 32, 84, 111, 111, 32, 76, 97, 114, 103, 101]), .int .i64 431, .string (mk [82, 101, 113, 117, 101, 115, 116, 32, 72, 101, 97, 100, 101, 114, 32, 70, 105, 101, 108, 100, 115, 32, 84, 111, 111, 32, 76, 97, 114, 103, 101]), .int .i64 502, .string (mk [66, 97, 100, 32, 71, 97, 116, 101, 119, 97, 121]), .int .i64 503, .string (mk [83, 101, 114, 118, 105, 99, 101, 32, 85, 110, 97, 118, 97, 105, 108, 97, 98, 108, 101]), .int .i64 504, .string (mk [71, 97, 116, 101, 119, 97, 121, 32, 84, 105, 109, 101, 111, 117, 116])]) (.int .i64 2)).run Tryz.prog W = .ok (.agg #[.int .i64 413, .string (mk [67, 111, 110, 116, 101, 110, 116, 32, 84, 111, 111, 32, 76, 97, 114, 103, 101])]) W := by kernel_rfl
theorem index3 (W : World) : (Instr.index 93 (.agg #[.int .i64 200, .string (mk [79, 75]), .int .i64 400, .string (mk [66, 97, 100, 32, 82, 101, 113, 117, 101, 115, 116]), .int .i64 413, .string (mk [67, 111, 110, 116, 101, 110, 116, 32, 84, 111, 111, 32, 76, 97, 114, 103, 101]), .int .i64 431, .string (mk [82, 101, 113, 117, 101, 115, 116, 32, 72, 101, 97, 100, 101, 114, 32, 70, 105, 101, 108, 100, 115, 32, 84, 111, 111, 32, 76, 97, 114, 103, 101]), .int .i64 502, .string (mk [66, 97, 100, 32, 71, 97, 116, 101, 119, 97, 121]), .int .i64 503, .string (mk [83, 101, 114, 118, 105, 99, 101, 32, 85, 110, 97, 118, 97, 105, 108, 97, 98, 108, 101]), .int .i64 504, .string (mk [71, 97, 116, 101, 119, 97, 121, 32, 84, 105, 109, 101, 111, 117, 116])]) (.int .i64 3)).run Tryz.prog W = .ok (.agg #[.int .i64 431, .string (mk [82, 101, 113, 117, 101, 115, 116, 32, 72, 101, 97, 100, 101, 114, 32, 70, 105, 101, 108, 100, 115, 32, 84, 111, 111, 32, 76, 97, 114, 103, 101])]) W := by kernel_rfl
theorem index4 (W : World) : (Instr.index 93 (.agg #[.int .i64 200, .string (mk [79, 75]), .int .i64 400, .string (mk [66, 97, 100, 32, 82, 101, 113, 117, 101, 115, 116]), .int .i64 413, .string (mk [67, 111, 110, 116, 101, 110, 116, 32, 84, 111, 111, 32, 76, 97, 114, 103, 101]), .int .i64 431, .string (mk [82, 101, 113, 117, 101, 115, 116, 32, 72, 101, 97, 100, 101, 114, 32, 70, 105, 101, 108, 100, 115, 32, 84, 111, 111, 32, 76, 97, 114, 103, 101]), .int .i64 502, .string (mk [66, 97, 100, 32, 71, 97, 116, 101, 119, 97, 121]), .int .i64 503, .string (mk [83, 101, 114, 118, 105, 99, 101, 32, 85, 110, 97, 118, 97, 105, 108, 97, 98, 108, 101]), .int .i64 504, .string (mk [71, 97, 116, 101, 119, 97, 121, 32, 84, 105, 109, 101, 111, 117, 116])]) (.int .i64 4)).run Tryz.prog W = .ok (.agg #[.int .i64 502, .string (mk [66, 97, 100, 32, 71, 97, 116, 101, 119, 97, 121])]) W := by kernel_rfl
theorem index5 (W : World) : (Instr.index 93 (.agg #[.int .i64 200, .string (mk [79, 75]), .int .i64 400, .string (mk [66, 97, 100, 32, 82, 101, 113, 117, 101, 115, 116]), .int .i64 413, .string (mk [67, 111, 110, 116, 101, 110, 116, 32, 84, 111, 111, 32, 76, 97, 114, 103, 101]), .int .i64 431, .string (mk [82, 101, 113, 117, 101, 115, 116, 32, 72, 101, 97, 100, 101, 114, 32, 70, 105, 101, 108, 100, 115, 32, 84, 111, 111, 32, 76, 97, 114, 103, 101]), .int .i64 502, .string (mk [66, 97, 100, 32, 71, 97, 116, 101, 119, 97, 121]), .int .i64 503, .string (mk [83, 101, 114, 118, 105, 99, 101, 32, 85, 110, 97, 118, 97, 105, 108, 97, 98, 108, 101]), .int .i64 504, .string (mk [71, 97, 116, 101, 119, 97, 121, 32, 84, 105, 109, 101, 111, 117, 116])]) (.int .i64 5)).run Tryz.prog W = .ok (.agg #[.int .i64 503, .string (mk [83, 101, 114, 118, 105, 99, 101, 32, 85, 110, 97, 118, 97, 105, 108, 97, 98, 108, 101])]) W := by kernel_rfl
theorem index6 (W : World) : (Instr.index 93 (.agg #[.int .i64 200, .string (mk [79, 75]), .int .i64 400, .string (mk [66, 97, 100, 32, 82, 101, 113, 117, 101, 115, 116]), .int .i64 413, .string (mk [67, 111, 110, 116, 101, 110, 116, 32, 84, 111, 111, 32, 76, 97, 114, 103, 101]), .int .i64 431, .string (mk [82, 101, 113, 117, 101, 115, 116, 32, 72, 101, 97, 100, 101, 114, 32, 70, 105, 101, 108, 100, 115, 32, 84, 111, 111, 32, 76, 97, 114, 103, 101]), .int .i64 502, .string (mk [66, 97, 100, 32, 71, 97, 116, 101, 119, 97, 121]), .int .i64 503, .string (mk [83, 101, 114, 118, 105, 99, 101, 32, 85, 110, 97, 118, 97, 105, 108, 97, 98, 108, 101]), .int .i64 504, .string (mk [71, 97, 116, 101, 119, 97, 121, 32, 84, 105, 109, 101, 111, 117, 116])]) (.int .i64 6)).run Tryz.prog W = .ok (.agg #[.int .i64 504, .string (mk [71, 97, 116, 101, 119, 97, 121, 32, 84, 105, 109, 101, 111, 117, 116])]) W := by kernel_rfl
set_option maxRecDepth 100000 in
set_option maxHeartbeats 2000000 in
theorem reason_any (code : Int) (w : World) (he : SEnv w) :
    Calls Tryz.prog 45 #[.int .i64 code] w fun e w' => e = .returned (.string (reasonS code)) ∧ Below w.heap.size w w' := by
  obtain ⟨a0, b0⟩ := he.said 0 _ rfl
  obtain ⟨a1, b1⟩ := he.said 1 _ rfl
  obtain ⟨a2, b2⟩ := he.said 2 _ rfl
  obtain ⟨a3, b3⟩ := he.said 3 _ rfl
  obtain ⟨a4, b4⟩ := he.said 4 _ rfl
  obtain ⟨a5, b5⟩ := he.said 5 _ rfl
  obtain ⟨a6, b6⟩ := he.said 6 _ rfl
  simp only [Nat.mul_zero, Nat.zero_add, Nat.reduceMul, Nat.reduceAdd] at a0 a1 a2 a3 a4 a5 a6 b0 b1 b2 b3 b4 b5 b6
  clear he
  have hb0 : Below w.heap.size w w := Below.refl _ _
  go_enter Tryz.func45, Tryz.ntmps45
  go_wp2_with fail
  clear a0 a1 a2 a3 a4 a5 a6 b0 b1 b2 b3 b4 b5 b6
  go_loopw [6] (fun i wr => ∃ k : Nat, k ≤ 7 ∧ i = .int .i64 k ∧ Hid (NotYet k code) ∧ Below w.heap.size w wr) (fun i _ => 7 - (intOf i).toNat)
  case atStart => exact ⟨0, by omega, rfl, Lib.hid (fun j hj => by omega), hb0⟩
  case round =>
    obtain ⟨k, hk, rfl, hn, hb⟩ := hrel
    have hgw := hb.size
    have hcase : k = 0 ∨ k = 1 ∨ k = 2 ∨ k = 3 ∨ k = 4 ∨ k = 5 ∨ k = 6 ∨ k = 7 := by omega
    rcases hcase with rfl | rfl | rfl | rfl | rfl | rfl | rfl | rfl
    · have hix := index0
      by_cases hc : code = 200
      · subst hc
        have HX := Lib.hid (show reasonS 200 = mk [79, 75] by decide)
        go_wp2_with fail
        go_ret
        exact ⟨ret_str HX.out.symm, by (repeat' (first | exact hb | refine Below.alloc ?_ (by first | (simp; done) | (simp; omega) | omega) _ | refine Below.setCell ?_ (by first | (simp; done) | (simp; omega) | omega) _ | refine below_drewN ?_))⟩
      · have HN := Lib.hid (hn.out.next (k := 0) rfl hc)
        go_wp2_with fail
        go_roundw
        case rel => exact ⟨1, by omega, by go_num, HN, by (repeat' (first | exact hb | refine Below.alloc ?_ (by first | (simp; done) | (simp; omega) | omega) _ | refine Below.setCell ?_ (by first | (simp; done) | (simp; omega) | omega) _ | refine below_drewN ?_))⟩
        case measure => simp [intOf]
    · have hix := index1
      by_cases hc : code = 400
      · subst hc
        have HX := Lib.hid (show reasonS 400 = mk [66, 97, 100, 32, 82, 101, 113, 117, 101, 115, 116] by decide)
        go_wp2_with fail
        go_ret
        exact ⟨ret_str HX.out.symm, by (repeat' (first | exact hb | refine Below.alloc ?_ (by first | (simp; done) | (simp; omega) | omega) _ | refine Below.setCell ?_ (by first | (simp; done) | (simp; omega) | omega) _ | refine below_drewN ?_))⟩
      · have HN := Lib.hid (hn.out.next (k := 1) rfl hc)
        go_wp2_with fail
        go_roundw
        case rel => exact ⟨2, by omega, by go_num, HN, by (repeat' (first | exact hb | refine Below.alloc ?_ (by first | (simp; done) | (simp; omega) | omega) _ | refine Below.setCell ?_ (by first | (simp; done) | (simp; omega) | omega) _ | refine below_drewN ?_))⟩
        case measure => simp [intOf]
    · have hix := index2
      by_cases hc : code = 413
      · subst hc
        have HX := Lib.hid (show reasonS 413 = mk [67, 111, 110, 116, 101, 110, 116, 32, 84, 111, 111, 32, 76, 97, 114, 103, 101] by decide)
        go_wp2_with fail
        go_ret
        exact ⟨ret_str HX.out.symm, by (repeat' (first | exact hb | refine Below.alloc ?_ (by first | (simp; done) | (simp; omega) | omega) _ | refine Below.setCell ?_ (by first | (simp; done) | (simp; omega) | omega) _ | refine below_drewN ?_))⟩
      · have HN := Lib.hid (hn.out.next (k := 2) rfl hc)
        go_wp2_with fail
        go_roundw
        case rel => exact ⟨3, by omega, by go_num, HN, by (repeat' (first | exact hb | refine Below.alloc ?_ (by first | (simp; done) | (simp; omega) | omega) _ | refine Below.setCell ?_ (by first | (simp; done) | (simp; omega) | omega) _ | refine below_drewN ?_))⟩
        case measure => simp [intOf]
    · have hix := index3
      by_cases hc : code = 431
      · subst hc
        have HX := Lib.hid (show reasonS 431 = mk [82, 101, 113, 117, 101, 115, 116, 32, 72, 101, 97, 100, 101, 114, 32, 70, 105, 101, 108, 100, 115, 32, 84, 111, 111, 32, 76, 97, 114, 103, 101] by decide)
        go_wp2_with fail
        go_ret
        exact ⟨ret_str HX.out.symm, by (repeat' (first | exact hb | refine Below.alloc ?_ (by first | (simp; done) | (simp; omega) | omega) _ | refine Below.setCell ?_ (by first | (simp; done) | (simp; omega) | omega) _ | refine below_drewN ?_))⟩
      · have HN := Lib.hid (hn.out.next (k := 3) rfl hc)
        go_wp2_with fail
        go_roundw
        case rel => exact ⟨4, by omega, by go_num, HN, by (repeat' (first | exact hb | refine Below.alloc ?_ (by first | (simp; done) | (simp; omega) | omega) _ | refine Below.setCell ?_ (by first | (simp; done) | (simp; omega) | omega) _ | refine below_drewN ?_))⟩
        case measure => simp [intOf]
    · have hix := index4
      by_cases hc : code = 502
      · subst hc
        have HX := Lib.hid (show reasonS 502 = mk [66, 97, 100, 32, 71, 97, 116, 101, 119, 97, 121] by decide)
        go_wp2_with fail
        go_ret
        exact ⟨ret_str HX.out.symm, by (repeat' (first | exact hb | refine Below.alloc ?_ (by first | (simp; done) | (simp; omega) | omega) _ | refine Below.setCell ?_ (by first | (simp; done) | (simp; omega) | omega) _ | refine below_drewN ?_))⟩
      · have HN := Lib.hid (hn.out.next (k := 4) rfl hc)
        go_wp2_with fail
        go_roundw
        case rel => exact ⟨5, by omega, by go_num, HN, by (repeat' (first | exact hb | refine Below.alloc ?_ (by first | (simp; done) | (simp; omega) | omega) _ | refine Below.setCell ?_ (by first | (simp; done) | (simp; omega) | omega) _ | refine below_drewN ?_))⟩
        case measure => simp [intOf]
    · have hix := index5
      by_cases hc : code = 503
      · subst hc
        have HX := Lib.hid (show reasonS 503 = mk [83, 101, 114, 118, 105, 99, 101, 32, 85, 110, 97, 118, 97, 105, 108, 97, 98, 108, 101] by decide)
        go_wp2_with fail
        go_ret
        exact ⟨ret_str HX.out.symm, by (repeat' (first | exact hb | refine Below.alloc ?_ (by first | (simp; done) | (simp; omega) | omega) _ | refine Below.setCell ?_ (by first | (simp; done) | (simp; omega) | omega) _ | refine below_drewN ?_))⟩
      · have HN := Lib.hid (hn.out.next (k := 5) rfl hc)
        go_wp2_with fail
        go_roundw
        case rel => exact ⟨6, by omega, by go_num, HN, by (repeat' (first | exact hb | refine Below.alloc ?_ (by first | (simp; done) | (simp; omega) | omega) _ | refine Below.setCell ?_ (by first | (simp; done) | (simp; omega) | omega) _ | refine below_drewN ?_))⟩
        case measure => simp [intOf]
    · have hix := index6
      by_cases hc : code = 504
      · subst hc
        have HX := Lib.hid (show reasonS 504 = mk [71, 97, 116, 101, 119, 97, 121, 32, 84, 105, 109, 101, 111, 117, 116] by decide)
        go_wp2_with fail
        go_ret
        exact ⟨ret_str HX.out.symm, by (repeat' (first | exact hb | refine Below.alloc ?_ (by first | (simp; done) | (simp; omega) | omega) _ | refine Below.setCell ?_ (by first | (simp; done) | (simp; omega) | omega) _ | refine below_drewN ?_))⟩
      · have HN := Lib.hid (hn.out.next (k := 6) rfl hc)
        go_wp2_with fail
        go_roundw
        case rel => exact ⟨7, by omega, by go_num, HN, by (repeat' (first | exact hb | refine Below.alloc ?_ (by first | (simp; done) | (simp; omega) | omega) _ | refine Below.setCell ?_ (by first | (simp; done) | (simp; omega) | omega) _ | refine below_drewN ?_))⟩
        case measure => simp [intOf]
    · have HX := Lib.hid hn.out.all
      go_wp2_with fail
      go_ret
      exact ⟨ret_str HX.out.symm, hb⟩
end Go.Proofs.YthedoophopilgaaGreatDoor.Oct
