/- octet.Digits; the document's Print (printed by genO.py). -/
import Derived.Test.YtphbieaoedbmpaaDoorProg
import Derived.Test.YtphbieaoedbmpaaDoorShelf
import Derived.WalkKit
import Derived.WalkSpells
import Derived.WalkLawsBesides
import Derived.Lib.Hide
import Derived.Shelf.Strings.SlTrimAscii
import Derived.Laws.IdiomStrings
import Derived.Lib.ConvBytes
import Derived.Deep.Cut
import Derived.Lib.LaidTab
import Derived.Laws.BitsLemmas
import Derived.RangeFuncBox
import Derived.RangeFuncLeaves
import Derived.RangeFuncCalls
import Derived.RangeFuncWrites
import Derived.Shelf.Abstract
import Derived.OwnWalkIn
import Derived.TacticsInMore
import Derived.LoopNIn
import Derived.LoopIn
import Derived.Maps.AppendAt
import Derived.OwnWalk
import Derived.BigQuiet
import Derived.Deep.QuietTactic
import Derived.Lib.LaidTab
namespace Go.Proofs.YtphbieaoedbmpaaDoor.Oct
open Go.RowKit
set_option linter.unusedVariables false
theorem ret_str {a b : ByteArray} (h : a = b) : Ending.returned (.string a) = .returned (.string b) := by rw [h]
/-- A digit's worth. -/
def digN (x : UInt8) : Nat := if 48 ≤ x.toNat ∧ x.toNat ≤ 57 then x.toNat - 48 else if 97 ≤ x.toNat then x.toNat - 87 else x.toNat - 55
def val (b : Nat) (l : List UInt8) : Nat := l.foldl (fun n x => n * b + digN x) 0
/-- Hexadecimal digits. -/
def hexDig (n : Nat) : UInt8 := if n < 10 then UInt8.ofNat (48 + n) else UInt8.ofNat (87 + n)
def hexL (n : Nat) : List UInt8 := if n < 16 then [hexDig n] else hexL (n / 16) ++ [hexDig (n % 16)]
termination_by n
decreasing_by omega
def decL (n : Int) : List UInt8 := Lib.decDigits n.toNat
def decS (n : Int) : ByteArray := ⟨(decL n).toArray⟩
theorem grow_below {w w' : World} {k : Nat} {os : Array Obj} (h : w' = Go.Sort.grow (w.drewN k) os) : Below w.heap.size w w' := by
  subst h
  refine ⟨rfl, rfl, rfl, by simp [Go.Sort.grow, World.drewN], fun i hi => ?_⟩
  show (w.heap ++ os)[i]? = _
  rw [Array.getElem?_append_left hi]
theorem tabIs_below {n : String} {g : Nat} {k : IntKind} {zs : List Int} {w w' : World} (hg : Tryd.prog.globalNamed n = some g) (h : Lib.TabIs Tryd.prog w n k zs) (hb : Below w.heap.size w w') : Lib.TabIs Tryd.prog w' n k zs := by
  unfold Lib.TabIs World.var? at h ⊢
  rw [hg] at h ⊢
  simp only [Option.bind_some] at h ⊢
  have hlt : g < w.heap.size := by
    rcases Nat.lt_or_ge g w.heap.size with h' | h'
    · exact h'
    · rw [Array.getElem?_eq_none h'] at h; cases h
  rw [hb.block g hlt]
  exact h
/-- The package-level tables that the calls read hold what start-up code laid. -/
structure Env (w : World) : Prop where
  pow : Lib.TabIs Tryd.prog w "internal/strconv.uint64pow10" .u64 Lib.pow10Tab
theorem Env.below {w w' : World} (h : Env w) (hb : Below w.heap.size w w') : Env w' := ⟨tabIs_below (g := 2) (by kernel_rfl) h.pow hb⟩
theorem itoa_any (x : Int) (h0 : 0 ≤ x) (h1 : x ≤ 9223372036854775807) (w : World) (he : Env w) :
    Calls Tryd.prog 35 #[.int .i64 x] w fun e w' => e = .returned (.string (decS x)) ∧ Below w.heap.size w w' :=
  (Tryd.strconv_Itoa x (by omega) h1 w he.pow).mono fun e w' ⟨h2, k, os, hw⟩ => ⟨by rw [h2]; unfold decS decL Lib.itoa; rw [if_neg (by omega)], grow_below hw⟩
set_option maxRecDepth 100000 in
theorem digits_any (n : Int) (hn : n ≤ 9223372036854775807) (w : World) (he : Env w) :
    Calls Tryd.prog 30 #[.int .i64 n] w fun e w' => e = .returned (.string (decS n)) ∧ Below w.heap.size w w' := by
  have HE := Lib.hid he
  clear he
  go_enter Tryd.func30, Tryd.ntmps30
  go_wp2_with (go_at_call 35; refine (itoa_any (max 0 n) (by omega) (by omega) _ HE.out).mono ?_; rintro e w1 ⟨rfl, hb⟩)
  go_ret
  exact ⟨ret_str (by unfold decS decL; rw [show (max 0 n).toNat = n.toNat by omega]), hb⟩
theorem ba_take (t : ByteArray) (i : Nat) : t.extract 0 i = ⟨(t.data.toList.take i).toArray⟩ := by
  apply Go.WideShapes.bytes_inj
  rw [Lib.extract_from_zero]
theorem ba_size (l : List UInt8) : (⟨l.toArray⟩ : ByteArray).size = l.length := by simp [ByteArray.size]
theorem grow_low {B : Nat} {a W w' : World} {ob : Option Nat} (h : Below B a W) (hs : B ≤ W.heap.size) (hg : W.grownBy w' ob) (hob : ∀ b, ob = some b → B ≤ b) : Below B a w' :=
  ⟨hg.os.trans h.os, hg.tape.trans h.tape, hg.output.trans h.output, Nat.le_trans h.size hg.size, fun k hk => (hg.block k (by omega) (fun e => by have := hob k e.symm; omega)).trans (h.block k hk)⟩
theorem below_drewN {B : Nat} {a w : World} {n : Nat} (h : Below B a w) : Below B a (w.drewN n) := ⟨h.os, h.tape, h.output, h.size, h.block⟩
def cutS (n : Nat) (s : ByteArray) : ByteArray := ⟨(s.data.toList.take n).toArray⟩
theorem cutS_id {n : Nat} {s : ByteArray} (h : s.size ≤ n) : cutS n s = s := by
  unfold cutS; rw [List.take_of_length_le (by simpa using h)]
theorem cut_any (s : ByteArray) (n : Nat) (w : World) :
    Calls Tryd.prog 6 #[.string s, .int .i64 n] w fun e w' => e = .returned (.string (cutS n s)) ∧ w = w' := by
  go_enter Tryd.func6, Tryd.ntmps6
  by_cases h : (n : Int) < s.size
  · go_wp2_with fail
    go_ret
    exact ⟨ret_str (ba_take s n), rfl⟩
  · go_wp2_with fail
    go_ret
    exact ⟨ret_str (cutS_id (by omega)).symm, rfl⟩
theorem hex_at : ∀ r : Fin 16, (⟨#[48, 49, 50, 51, 52, 53, 54, 55, 56, 57, 97, 98, 99, 100, 101, 102]⟩ : ByteArray).extract r.val (r.val + 1) = ⟨#[hexDig r.val]⟩ := by decide +kernel
/-- The digits of a number to the base 10 or 16. -/
def digL (b n : Nat) : List UInt8 := if b = 16 then hexL n else Lib.decDigits n
theorem digL_small {b n : Nat} (hb : b = 10 ∨ b = 16) (h : n < b) : digL b n = [hexDig n] := by
  rcases hb with rfl | rfl
  · rw [digL, if_neg (by decide), Lib.decDigits, dif_pos h, hexDig, if_pos h]
  · rw [digL, if_pos rfl, hexL, if_pos h]
theorem digL_big {b n : Nat} (hb : b = 10 ∨ b = 16) (h : ¬ n < b) : digL b n = digL b (n / b) ++ [hexDig (n % b)] := by
  rcases hb with rfl | rfl
  · rw [digL, if_neg (by decide), Lib.decDigits, dif_neg h, digL, if_neg (by decide), hexDig, if_pos (by omega)]
  · rw [digL, if_pos rfl, hexL, if_neg h, digL, if_pos rfl]
theorem decS_dig (n : Int) : decS n = ⟨(digL 10 n.toNat).toArray⟩ := rfl
/-- One more digit in front. -/
theorem dig_front {b N m : Nat} {t : List UInt8} (hb : b = 10 ∨ b = 16) (hm : 0 < m) (h : digL b N = digL b m ++ t) : (0 < m / b → digL b N = digL b (m / b) ++ (hexDig (m % b) :: t)) ∧ (m / b = 0 → hexDig (m % b) :: t = digL b N) := by
  by_cases hl : m < b
  · have h0 : m / b = 0 := Nat.div_eq_of_lt hl
    refine ⟨fun e => by omega, fun _ => ?_⟩
    rw [h, digL_small hb hl, Nat.mod_eq_of_lt hl]; rfl
  · have h0 : 0 < m / b := Nat.div_pos (by omega) (by rcases hb with rfl | rfl <;> omega)
    refine ⟨fun _ => ?_, fun e => by omega⟩
    rw [h, digL_big hb hl, List.append_assoc]; rfl
theorem digL_len {b : Nat} (hb : b = 10 ∨ b = 16) : ∀ n : Nat, (digL b n).length ≤ n / 2 + 1 := by
  intro n
  induction n using Nat.strongRecOn with
  | _ n ih =>
    by_cases h : n < b
    · rw [digL_small hb h]; simp
    · have h1 : n / b < n := Nat.div_lt_self (by rcases hb with rfl | rfl <;> omega) (by rcases hb with rfl | rfl <;> omega)
      have := ih _ h1
      rw [digL_big hb h, List.length_append, List.length_singleton]
      rcases hb with rfl | rfl <;> omega
theorem cat_run (a b : ByteArray) (h : a.size + b.size ≤ 9223372036854775807) (W : World) : (Op.stringOp .add a b).run Tryd.prog W = .ok (.string (a ++ b)) W := by
  unfold Op.stringOp
  simp only
  rw [if_neg (by show ¬ ((a.size + b.size : Nat) : Int) > 9223372036854775807; omega)]
  rfl
theorem hex_cat (d : UInt8) (t : List UInt8) : (⟨#[d]⟩ : ByteArray) ++ ⟨t.toArray⟩ = ⟨(d :: t).toArray⟩ := by
  apply Go.WideShapes.bytes_inj
  simp
theorem hex_slice {b : Nat} (bi : Int) (hbi : bi = (b : Int)) (hb : b = 10 ∨ b = 16) (m : Nat) (hm : m ≤ 9223372036854775807) (W : World) :
    (Instr.slice 9 (.string ⟨#[48, 49, 50, 51, 52, 53, 54, 55, 56, 57, 97, 98, 99, 100, 101, 102]⟩) (some (.int .i64 ((m : Int).tmod bi))) (some (.int .i64 (IntKind.i64.wrap ((m : Int).tmod bi + 1)))) none).run Tryd.prog W = .ok (.string ⟨#[hexDig (m % b)]⟩) W := by
  subst hbi
  have hr : m % b < 16 := Nat.lt_of_lt_of_le (Nat.mod_lt _ (by rcases hb with rfl | rfl <;> decide)) (by rcases hb with rfl | rfl <;> decide)
  have e1 : (m : Int).tmod (b : Int) = ((m % b : Nat) : Int) := rfl
  have e2 : IntKind.i64.wrap (((m % b : Nat) : Int) + 1) = ((m % b + 1 : Nat) : Int) := by simp [IntKind.wrap, IntKind.bits, IntKind.signed]; omega
  rw [e1, e2, run_slice_string _ _ _ _ _ _ _ Tryd.underlying9 (by omega) (by omega) (by show _ ≤ (16 : Int); omega)]
  show Result.ok (Value.string (ByteArray.extract _ (m % b) (m % b + 1))) W = _
  rw [hex_at ⟨m % b, hr⟩]
set_option maxRecDepth 100000 in
set_option maxHeartbeats 1000000 in
theorem refPrint10 (n : Int) (hn : n ≤ 9223372036854775807) (w : World) :
    Calls Tryd.prog 25 #[.int .i64 n, .int .i64 10] w fun e w' => e = .returned (.string (decS n)) ∧ Below w.heap.size w w' := by
  by_cases c0 : n ≤ 0
  · have HX := Lib.hid (show decS n = ⟨#[48]⟩ by rw [decS_dig, show n.toNat = 0 by omega, digL_small (by decide) (by decide)]; rfl)
    go_enter Tryd.func25, Tryd.ntmps25
    go_wp2_with fail
    go_ret
    exact ⟨ret_str HX.out.symm, Below.refl _ _⟩
  · obtain ⟨N, rfl⟩ := Int.eq_ofNat_of_zero_le (show 0 ≤ n by omega)
    have HX := Lib.hid (show decS (N : Int) = ⟨(digL 10 N).toArray⟩ from decS_dig _)
    have c1 : 0 < N := by omega
    have hb0 : Below w.heap.size w w := Below.refl _ _
    generalize hg : w.heap.size = g at *
    go_enter Tryd.func25, Tryd.ntmps25
    go_wp2_with fail
    go_loopw [5, 0] (fun s n wr => ∃ (m : Nat) (t : List UInt8), s = .string ⟨t.toArray⟩ ∧ n = .int .i64 m ∧ m ≤ N ∧ Hid (0 < m → digL 10 N = digL 10 m ++ t) ∧ Hid (m = 0 → t = digL 10 N) ∧ Below g w wr) (fun _ n _ => (intOf n).toNat)
    case atStart => exact ⟨N, [], rfl, rfl, Nat.le_refl _, Lib.hid (fun _ => by simp), Lib.hid (fun h => by omega), hb0⟩
    case round =>
      obtain ⟨m, t, rfl, rfl, hm, h1, h2, hb⟩ := hrel
      by_cases c2 : 0 < m
      · have hr : m % 10 < 10 := Nat.mod_lt _ (by decide)
        have HF := Lib.hid (dig_front (b := 10) (by decide) c2 (h1.out c2))
        have hcat : ∀ W : World, (Op.stringOp .add ⟨#[hexDig (m % 10)]⟩ ⟨t.toArray⟩).run Tryd.prog W = .ok (.string ⟨(hexDig (m % 10) :: t).toArray⟩) W := by
          intro W
          have hl := digL_len (b := 10) (by decide) N
          rw [h1.out c2, List.length_append] at hl
          rw [cat_run _ _ (by rw [ba_size t]; show 1 + _ ≤ _; omega), hex_cat]
        have hsl := hex_slice (b := 10) 10 rfl (by decide) m (by omega)
        go_wp2_with fail
        go_quiet (fail)
        go_wp2_with fail
        go_roundw
        case rel => exact ⟨m / 10, _, rfl, by go_num, by omega, Lib.hid HF.out.1, Lib.hid HF.out.2, below_drewN hb⟩
        case measure => simp [intOf]; omega
      · have HE := Lib.hid (show decS (N : Int) = ⟨t.toArray⟩ by rw [HX.out, h2.out (by omega)])
        go_wp2_with fail
        go_ret
        exact ⟨ret_str HE.out.symm, by (try rw [hg]); exact hb⟩
end Go.Proofs.YtphbieaoedbmpaaDoor.Oct
