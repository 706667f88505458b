import Derived.Test.YtkbjklnkeammiaaDoorOctE
import Derived.Lib.LaidTab
import Derived.Laws.BitsLemmas
import Derived.Deep.Cut
namespace Go.Proofs.YtkbjklnkeammiaaDoor.Oct
open Go.RowKit
set_option linter.unusedVariables false

theorem tzk : IntKind.u64.wrap (bits .and .u64 16 (IntKind.u64.wrap (-16)) * 285870213051353865) / 288230376151711744 = 15 := by decide +kernel
set_option maxHeartbeats 1000000 in
theorem tz16 (w : World) (ht : w.cell? ⟨9, 15, none⟩ = some (.int .u8 4)) :
    Calls Tryd.prog 148 #[.int .u64 16] w fun e w' => e = .returned (.int .i64 4) ∧ w = w' := by
  have hk := tzk
  go_enter Tryd.func148, Tryd.ntmps148
  go_wp2
  go_ret
  exact ⟨rfl, rfl⟩

theorem blk_new (w : World) (o : Obj) : (w.alloc o).heap[w.heap.size]? = some o := by
  show (w.heap.push o)[w.heap.size]? = _
  simp
/-- Block g is a row of bytes, nothing else. -/
def BArr (w : World) (g : Nat) (l : List UInt8) (T : TypeId) : Prop := w.heap[g]? = some (.cells (bcells l 0) T (0, 0))
theorem BArr.cell {w : World} {g : Nat} {l : List UInt8} {T k : Nat} (h : BArr w g l T) (hk : k < l.length) : w.cell? ⟨g, k, none⟩ = some (.int .u8 ((l[k]).toNat : Int)) := by
  have h' : w.heap[g]? = _ := h
  simp only [World.cell?, h', Option.isSome_none, Bool.false_eq_true, if_false]
  exact bcells_get hk
theorem BArr.free {w : World} {g : Nat} {l : List UInt8} {T k : Nat} (h : BArr w g l T) : w.frozen? ⟨g, k, none⟩ = false := by
  have h' : w.heap[g]? = _ := h
  simp only [World.frozen?, h']
  simp
theorem BArr.set {w : World} {g : Nat} {l : List UInt8} {T k : Nat} (h : BArr w g l T) (hk : k < l.length) (b : UInt8) : BArr (w.setCell ⟨g, k, none⟩ (.int .u8 (b.toNat : Int))) g (l.set k b) T := by
  have h' : w.heap[g]? = _ := h
  show ((w.setCell ⟨g, k, none⟩ (.int .u8 (b.toNat : Int))).heap)[g]? = _
  simp only [World.setCell, Array.getElem?_modify, if_true, h', Option.map_some, Option.isSome_none, Bool.false_eq_true, if_false]
  rw [bcells_set hk]

/-- Hexadecimal digits. -/
def hexDig (n : Nat) : UInt8 := if n < 10 then UInt8.ofNat (48 + n) else UInt8.ofNat (87 + n)
def hexL (n : Nat) : List UInt8 := if n < 16 then [hexDig n] else hexL (n / 16) ++ [hexDig (n % 16)]
termination_by n
decreasing_by omega

theorem and15 (m : Nat) (hm : m < 18446744073709551616) : bits .and .u64 (m : Int) 15 = ((m % 16 : Nat) : Int) := by
  have h := (bits_nat .u64 64 (by decide) (fun n h0 h1 => by rw [show IntKind.u64.wrap n = n % 18446744073709551616 by simp [IntKind.wrap, IntKind.bits, IntKind.signed]]; omega) m 15 (by omega) (by decide)).1
  have h2 : m &&& 15 = m % 16 := Nat.and_two_pow_sub_one_eq_mod m 4
  rw [h2] at h
  exact h
theorem dig_at (b : ByteArray) (hb : b.data.toList.take 16 = [48, 49, 50, 51, 52, 53, 54, 55, 56, 57, 97, 98, 99, 100, 101, 102]) (i : Nat) (hi : i < b.size) (h : i < 16) : b[i] = hexDig i := by
  have h1 : b[i] = b.data.toList[i]'(by simpa using hi) := rfl
  have h2 : (b.data.toList.take 16)[i]? = some b[i] := by rw [List.getElem?_take, if_pos h, h1]; simp
  rw [hb] at h2
  have h3 : ∀ k : Fin 16, ([48, 49, 50, 51, 52, 53, 54, 55, 56, 57, 97, 98, 99, 100, 101, 102] : List UInt8)[k.val]? = some (hexDig k.val) := by decide
  have h4 := h3 ⟨i, h⟩
  rw [h4] at h2
  exact (Option.some.inj h2).symm
theorem hex_drop (l : List UInt8) (j : Nat) (hl : l.length = 65) (hj : j ≤ 15) (d : UInt8) : (l.set (65 - j - 1) d).drop (65 - (j + 1)) = d :: l.drop (65 - j) := by
  rw [show 65 - (j + 1) = 65 - j - 1 by omega, List.drop_eq_getElem_cons (by simp; omega)]
  simp only [List.getElem_set_self]
  rw [List.drop_set_of_lt (by omega), show 65 - j - 1 + 1 = 65 - j by omega]
theorem hex_div {m j : Nat} (hm : m < 16 ^ (16 - j)) (hj : j ≤ 15) : m / 16 < 16 ^ (16 - (j + 1)) := by
  rw [Nat.div_lt_iff_lt_mul (by decide), ← Nat.pow_succ, show (16 - (j + 1)).succ = 16 - j by omega]
  exact hm

set_option maxRecDepth 100000 in
set_option maxHeartbeats 1000000 in
theorem formatBits16 (n : Nat) (hn : n < 9223372036854775808) (w : World) (ht : w.cell? ⟨9, 15, none⟩ = some (.int .u8 4)) :
    Calls Tryd.prog 129 #[.slice none 0 0, .int .u64 n, .int .i64 16, .bool false, .bool false] w fun e w' => e = .returned (.tuple #[.slice none 0 0, .string ⟨(hexL n).toArray⟩]) ∧ Below w.heap.size w w' := by
  have hlt : 9 < w.heap.size := World.block_lt_of_cell? _ _ ht
  have ht2 := Lib.hid (show ∀ o, (w.alloc o).cell? ⟨9, 15, none⟩ = some (.int .u8 4) from fun o => (((Below.refl w.heap.size w).alloc (Nat.le_refl _) o).cell (p := ⟨9, 15, none⟩) hlt).trans ht)
  have hp : bits .and .i64 16 15 = 0 := by decide
  go_enter Tryd.func129, Tryd.ntmps129
  go_wp2_with (first | (go_at_call 148; refine (tz16 _ (ht2.out _)).mono ?_; rintro e w1 ⟨rfl, rfl⟩) | go_in)
  have hz : Tryd.zeroCells162 = bcells (List.replicate 65 0) 0 := by kernel_rfl
  have hb0 : BArr (w.alloc (.cells Tryd.zeroCells162 162)) w.heap.size (List.replicate 65 0) 162 := by rw [hz]; exact blk_new _ _
  have hbel : Below w.heap.size w (w.alloc (.cells Tryd.zeroCells162 162)) := (Below.refl _ _).alloc (Nat.le_refl _) _
  clear hz
  generalize w.alloc (.cells Tryd.zeroCells162 162) = W0 at *
  generalize hg : w.heap.size = g at *
  go_loopw [1, 13] (fun u i wr => ∃ (m j : Nat) (l : List UInt8), u = .int .u64 m ∧ i = .int .i64 (65 - (j : Int)) ∧ j ≤ 15 ∧ m < 16 ^ (16 - j) ∧ l.length = 65 ∧ BArr wr g l 162 ∧ hexL n = hexL m ++ l.drop (65 - j) ∧ Below g w wr) (fun _ i _ => (intOf i).toNat)
  case atStart => exact ⟨n, 0, _, rfl, rfl, by omega, by simp; omega, by simp, hb0, by simp, hbel⟩
  case round =>
    obtain ⟨m, j, l, rfl, rfl, hj, hm, hl, hrow, hx, hb⟩ := hrel
    have HX := Lib.hid hx
    have HRow := Lib.hid hrow
    have HM := Lib.hid hm
    have hmb : m < 18446744073709551616 := Nat.lt_of_lt_of_le hm (Nat.le_trans (Nat.pow_le_pow_right (n := 16) (by decide) (Nat.sub_le 16 j)) (by decide))
    have HMB := Lib.hid hmb
    clear hx hrow hm hmb
    have hj2 : 65 - j - 1 < l.length := by omega
    have hcell := HRow.out.cell hj2
    have hfree := HRow.out.free (k := 65 - j - 1)
    have hand := and15 m HMB.out
    have HS := Lib.hid (show ∀ (v : Int) (d : Nat), v = ((hexDig d).toNat : Int) → BArr (wr.setCell ⟨g, 65 - j - 1, none⟩ (.int .u8 v)) g (l.set (65 - j - 1) (hexDig d)) 162 from fun v d hv => hv ▸ HRow.out.set hj2 (hexDig d))
    have hdr := fun d => Lib.hid (hex_drop l j hl hj (hexDig d))
    by_cases c : 16 ≤ m
    · have hj3 : j + 1 ≤ 15 := by
        have hm := HM.out
        rcases Nat.lt_or_ge j 15 with h | h
        · omega
        · have : j = 15 := by omega
          subst this
          simp at hm
          omega
      have hm3 := Lib.hid (hex_div HM.out hj)
      have hm16 : m % 16 < 16 := Nat.mod_lt _ (by decide)
      have hx3 := Lib.hid (show hexL m = hexL (m / 16) ++ [hexDig (m % 16)] by rw [hexL, if_neg (by omega)])
      go_wp2
      go_roundw
      case rel => exact ⟨m / 16, j + 1, l.set (65 - j - 1) (hexDig (m % 16)), by go_num, by go_num, hj3, hm3.out, by simp [hl], HS.out _ _ (by rw [dig_at _ (by decide) _ _ hm16]), by rw [HX.out, hx3.out, (hdr _).out]; simp, hb.setCell (Nat.le_refl _) _⟩
      case measure => simp [intOf]; omega
    · have c' : m < 16 := by omega
      clear c
      go_upto_region 25 with fail
      generalize hW : World.setCell wr _ _ = W2
      have hR2 : BArr W2 g (l.set (65 - j - 1) (hexDig m)) 162 := by rw [← hW]; exact HS.out _ m (by rw [dig_at _ (by decide) _ _ c'])
      have hb2 : Below g w W2 := by rw [← hW]; exact hb.setCell (Nat.le_refl _) _
      clear hW hcell hfree hand
      have hsl : (Instr.sliceAt 162 (.pointer (some ⟨g, 0, none⟩)) (some (.int .i64 (65 - (j : Int) - 1))) none none).run Tryd.prog W2 = .ok (.slice (some ⟨g, 65 - j - 1, none⟩) (j + 1) (j + 1)) W2 := by
        have hal : Tryd.prog.arrayLen 162 = 65 := by kernel_rfl
        have hsz : (sizeOf (Tryd.prog.elem 162)).run Tryd.prog W2 = .ok 1 W2 := by kernel_rfl
        rw [run_sliceAt_array_l W2 162 ⟨g, 0, none⟩ (by kernel_rfl) .i64 _ (by omega) (by rw [hal]; omega), hsz, hal]
        simp only [Result.andThen, slicedAt, show (65 - (j : Int) - 1).toNat = 65 - j - 1 by omega]
        rw [if_neg (by omega)]
        simp only [Addr.add]
        rw [if_neg (by omega), show 0 + (65 - j - 1) * 1 = 65 - j - 1 by omega, show 65 - (65 - j - 1) = j + 1 by omega]
      have hback : (convert 91 9 (.slice (some ⟨g, 65 - j - 1, none⟩) (j + 1) (j + 1))).run Tryd.prog W2 = .ok (.string ⟨(hexL n).toArray⟩) W2 := by
        have e1 : hexL n = hexDig m :: l.drop (65 - j) := by
          rw [HX.out, show hexL m = [hexDig m] by rw [hexL, if_pos c']]; rfl
        have e2 : (hexDig m :: l.drop (65 - j)).length = j + 1 := by simp [hl]; omega
        have := run_convert_bytes_back (P := Tryd.prog) W2 91 9 5 ⟨g, 65 - j - 1, none⟩ (j + 1) (hexDig m :: l.drop (65 - j)) Tryd.underlying91 Tryd.underlying5 Tryd.underlying9 (fun k hk => by
          have hd := (hdr m).out
          have hk2 : 65 - j - 1 + k < (l.set (65 - j - 1) (hexDig m)).length := by simp [hl]; rw [e2] at hk; omega
          have hc := hR2.cell hk2
          have he : (hexDig m :: l.drop (65 - j))[k] = (l.set (65 - j - 1) (hexDig m))[65 - j - 1 + k] := by
            have : (hexDig m :: l.drop (65 - j))[k]? = (l.set (65 - j - 1) (hexDig m))[65 - j - 1 + k]? := by
              rw [← hd, List.getElem?_drop, show 65 - (j + 1) = 65 - j - 1 by omega]
            rw [List.getElem?_eq_getElem hk, List.getElem?_eq_getElem hk2] at this
            exact Option.some.inj this
          rw [he, ← hc]
          simp only [Addr.add]
          split
          · subst_vars; rfl
          · rfl)
        rw [e2] at this
        rw [this, e1]
      go_wp2
      go_ret2
      exact ⟨rfl, by rw [hg]; exact hb2⟩

/-! ### What a call reads of tables -/
/-- The package-level tables that the calls read hold what start-up code laid. -/
structure Env (w : World) : Prop where
  pow : Lib.TabIs Tryd.prog w "internal/strconv.uint64pow10" .u64 Lib.pow10Tab
  tz : w.cell? ⟨9, 15, none⟩ = some (.int .u8 4)
  ml : ∃ m : Int, w.cell? ⟨3, 0, none⟩ = some (.int .i64 m)

set_option maxRecDepth 100000 in
set_option maxHeartbeats 1000000 in
theorem formatInt_in (n : Nat) (hn : n < 9223372036854775808) (w : World) (ht : w.cell? ⟨9, 15, none⟩ = some (.int .u8 4)) :
    Calls Tryd.prog 108 #[.int .i64 n, .int .i64 16] w fun e w' => e = .returned (.string ⟨(hexL n).toArray⟩) ∧ Below w.heap.size w w' := by
  have hw : IntKind.u64.wrap (n : Int) = n := by simp [IntKind.wrap, IntKind.bits, IntKind.signed]; omega
  have hng : decide ((n : Int) < 0) = false := decide_eq_false (by omega)
  have HN := Lib.hid hn
  clear hn
  go_enter Tryd.func108, Tryd.ntmps108
  go_wp2_with (go_at_call 129; refine (formatBits16 n HN.out _ ht).mono ?_; rintro e w1 ⟨rfl, hb⟩)
  go_ret
  exact ⟨rfl, hb⟩

set_option maxRecDepth 100000 in
theorem formatInt_any (n : Nat) (hn : n < 9223372036854775808) (w : World) (ht : w.cell? ⟨9, 15, none⟩ = some (.int .u8 4)) :
    Calls Tryd.prog 78 #[.int .i64 n, .int .i64 16] w fun e w' => e = .returned (.string ⟨(hexL n).toArray⟩) ∧ Below w.heap.size w w' := by
  have HN := Lib.hid hn
  clear hn
  go_enter Tryd.func78, Tryd.ntmps78
  go_wp2_with (go_at_call 108; refine (formatInt_in n HN.out _ ht).mono ?_; rintro e w1 ⟨rfl, hb⟩)
  go_ret
  exact ⟨rfl, hb⟩

def hexS (n : Int) : ByteArray := ⟨(hexL n.toNat).toArray⟩
def decL (n : Int) : List UInt8 := Lib.decDigits n.toNat
def decS (n : Int) : ByteArray := ⟨(decL n).toArray⟩

theorem formatInt_int (x : Int) (h0 : 0 ≤ x) (h1 : x ≤ 9223372036854775807) (w : World) (he : Env w) :
    Calls Tryd.prog 78 #[.int .i64 x, .int .i64 16] w fun e w' => e = .returned (.string (hexS x)) ∧ Below w.heap.size w w' := by
  obtain ⟨m, rfl⟩ := Int.eq_ofNat_of_zero_le h0
  exact formatInt_any m (by omega) w he.tz

set_option maxRecDepth 100000 in
theorem hexDigits_any (n : Int) (hn : n ≤ 9223372036854775807) (w : World) (he : Env w) :
    Calls Tryd.prog 40 #[.int .i64 n] w fun e w' => e = .returned (.string (hexS n)) ∧ Below w.heap.size w w' := by
  have HE := Lib.hid he
  clear he
  go_enter Tryd.func40, Tryd.ntmps40
  go_wp2_with (go_at_call 78; refine (formatInt_int (max 0 n) (by omega) (by omega) _ HE.out).mono ?_; rintro e w1 ⟨rfl, hb⟩)
  go_ret
  exact ⟨ret_str (by unfold hexS; rw [show (max 0 n).toNat = n.toNat by omega]), hb⟩

theorem grow_below {w w' : World} {k : Nat} {os : Array Obj} (h : w' = Go.Sort.grow (w.drewN k) os) : Below w.heap.size w w' := by
  subst h
  refine ⟨rfl, rfl, rfl, by simp [Go.Sort.grow, World.drewN], fun i hi => ?_⟩
  show (w.heap ++ os)[i]? = _
  rw [Array.getElem?_append_left hi]

theorem itoa_any (x : Int) (h0 : 0 ≤ x) (h1 : x ≤ 9223372036854775807) (w : World) (he : Env w) :
    Calls Tryd.prog 77 #[.int .i64 x] w fun e w' => e = .returned (.string (decS x)) ∧ Below w.heap.size w w' :=
  (Tryd.strconv_Itoa x (by omega) h1 w he.pow).mono fun e w' ⟨h2, k, os, hw⟩ => ⟨by rw [h2]; unfold decS decL Lib.itoa; rw [if_neg (by omega)], grow_below hw⟩

set_option maxRecDepth 100000 in
theorem digits_any (n : Int) (hn : n ≤ 9223372036854775807) (w : World) (he : Env w) :
    Calls Tryd.prog 39 #[.int .i64 n] w fun e w' => e = .returned (.string (decS n)) ∧ Below w.heap.size w w' := by
  have HE := Lib.hid he
  clear he
  go_enter Tryd.func39, Tryd.ntmps39
  go_wp2_with (go_at_call 77; refine (itoa_any (max 0 n) (by omega) (by omega) _ HE.out).mono ?_; rintro e w1 ⟨rfl, hb⟩)
  go_ret
  exact ⟨ret_str (by unfold decS decL; rw [show (max 0 n).toNat = n.toNat by omega]), hb⟩
end Go.Proofs.YtkbjklnkeammiaaDoor.Oct
