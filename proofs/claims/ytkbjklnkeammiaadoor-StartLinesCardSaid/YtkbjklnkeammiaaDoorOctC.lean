import Derived.Test.YtkbjklnkeammiaaDoorOctB
import Derived.Laws.IdiomStrings
import Derived.Lib.ConvBytes
namespace Go.Proofs.YtkbjklnkeammiaaDoor.Oct
open Go.RowKit
set_option linter.unusedVariables false

/-! ### A row of bytes in a block -/
def bcells (l : List UInt8) (sp : Nat) : Array Value := (l.map fun b => Value.int .u8 (b.toNat : Int)).toArray ++ Array.replicate sp (.int .u8 0)
theorem bcells_size (l : List UInt8) (sp : Nat) : (bcells l sp).size = l.length + sp := by simp [bcells]
theorem bcells_get {l : List UInt8} {sp k : Nat} (h : k < l.length) : (bcells l sp)[k]? = some (.int .u8 ((l[k]).toNat : Int)) := by
  rw [bcells, Array.getElem?_append_left (by simpa using h)]
  simp [List.getElem?_eq_getElem h]
theorem bcells_set {l : List UInt8} {sp k : Nat} (h : k < l.length) (b : UInt8) : (bcells l sp).setIfInBounds k (.int .u8 (b.toNat : Int)) = bcells (l.set k b) sp := by
  apply Array.ext_getElem?
  intro i
  rw [Array.getElem?_setIfInBounds]
  by_cases hi : k = i
  · subst hi
    rw [if_pos rfl, if_pos (by rw [bcells_size]; omega), bcells_get (by simpa using h)]
    simp
  · rw [if_neg hi]
    unfold bcells
    rw [Array.getElem?_append, Array.getElem?_append]
    simp only [List.size_toArray, List.length_map, List.length_set]
    split
    · simp [hi]
    · rfl
/-- Block g is a row of bytes (with spare zeros), by a string's conversion made. -/
def BRow (w : World) (g : Nat) (l : List UInt8) (sp : Nat) : Prop := w.heap[g]? = some (.cells (bcells l sp) 5 (l.length + sp, l.length + sp + 1))
theorem BRow.lt {w : World} {g : Nat} {l : List UInt8} {sp : Nat} (h : BRow w g l sp) : g < w.heap.size := (Array.getElem?_eq_some_iff.1 h).1
theorem BRow.cell {w : World} {g : Nat} {l : List UInt8} {sp k : Nat} (h : BRow w g l sp) (hk : k < l.length) : w.cell? ⟨g, k, none⟩ = some (.int .u8 ((l[k]).toNat : Int)) := by
  have h' : w.heap[g]? = _ := h
  simp only [World.cell?, h', Option.isSome_none, Bool.false_eq_true, if_false]
  exact bcells_get hk
theorem BRow.free {w : World} {g : Nat} {l : List UInt8} {sp k : Nat} (h : BRow w g l sp) (hk : k < l.length) : w.frozen? ⟨g, k, none⟩ = false := by
  have h' : w.heap[g]? = _ := h
  simp only [World.frozen?, h']
  simp; omega
theorem BRow.set {w : World} {g : Nat} {l : List UInt8} {sp k : Nat} (h : BRow w g l sp) (hk : k < l.length) (b : UInt8) : BRow (w.setCell ⟨g, k, none⟩ (.int .u8 (b.toNat : Int))) g (l.set k b) sp := by
  have h' : w.heap[g]? = _ := h
  show ((w.setCell ⟨g, k, none⟩ (.int .u8 (b.toNat : Int))).heap)[g]? = _
  simp only [World.setCell, Array.getElem?_modify, if_true, h', Option.map_some, Option.isSome_none, Bool.false_eq_true, if_false, List.length_set]
  rw [bcells_set hk]

theorem conv_bytes {P : Program} (w : World) (src dst : TypeId) (s : ByteArray) (hs : P.underlying src = some .string) (hd : P.underlying dst = some (.slice 5)) (he : P.underlying 5 = some (.int .u8)) :
    ∃ (W1 : World) (sp : Nat), (convert src dst (.string s)).run P w = .ok (.slice (some ⟨w.heap.size, 0, none⟩) s.size (s.size + sp)) W1 ∧ BRow W1 w.heap.size s.data.toList sp ∧ Below w.heap.size w W1 := by
  have hc := grownCap_ge w s.size 0 5
  refine ⟨Lib.bytesWorld w 5 s, grownCap w s.size 0 5 - s.size, ?_, ?_, ?_⟩
  · rw [Lib.run_convert_string_bytes w src dst 5 s hs hd he]
    congr 2
    omega
  · have e : Lib.bytesCells w 5 s = bcells s.data.toList (grownCap w s.size 0 5 - s.size) := by
      simp [Lib.bytesCells, bcells, ← Array.toList_map]
    show (Lib.bytesWorld w 5 s).heap[w.heap.size]? = _
    rw [Lib.bytesWorld_at_new, e, bcells_size]
  · refine ⟨rfl, rfl, rfl, by rw [Lib.bytesWorld_size]; omega, fun k hk => Lib.bytesWorld_at_old w _ s k hk⟩

theorem conv_back {P : Program} {w : World} {g : Nat} {l : List UInt8} {sp : Nat} (h : BRow w g l sp) (src dst : TypeId) (hs : P.underlying src = some (.slice 5)) (he : P.underlying 5 = some (.int .u8)) (hd : P.underlying dst = some .string) (c : Nat) :
    (convert src dst (.slice (some ⟨g, 0, none⟩) l.length c)).run P w = .ok (.string ⟨l.toArray⟩) w :=
  run_convert_bytes_back w src dst 5 ⟨g, 0, none⟩ c l hs he hd (fun j hj => by
    have := h.cell hj
    by_cases h0 : j = 0
    · subst h0; simpa [Addr.add] using this
    · simpa [Addr.add, h0] using this)

/-- A letter in small. -/
def lowerB (b : UInt8) : UInt8 := if 65 ≤ b ∧ b ≤ 90 then b + 32 else b
def lowerL (l : List UInt8) : List UInt8 := l.map lowerB
def lowerS (s : ByteArray) : ByteArray := ⟨(lowerL s.data.toList).toArray⟩

theorem low_step (l : List UInt8) (k : Nat) (h : k < l.length) : ((lowerL (l.take k)) ++ l.drop k).set k (lowerB l[k]) = lowerL (l.take (k + 1)) ++ l.drop (k + 1) := by
  have hl : (lowerL (l.take k)).length = k := by simp [lowerL]; omega
  rw [List.set_append_right _ _ (by omega), hl, Nat.sub_self, List.drop_eq_getElem_cons h, List.set_cons_zero, List.take_succ_eq_append_getElem h]
  simp only [lowerL, List.map_append, List.map_cons, List.map_nil, List.append_assoc, List.cons_append, List.nil_append]
theorem low_get (l : List UInt8) (k : Nat) (h : k < l.length) : ∃ h2 : k < (lowerL (l.take k) ++ l.drop k).length, (lowerL (l.take k) ++ l.drop k)[k] = l[k] := by
  have hl : (lowerL (l.take k)).length = k := by simp [lowerL]; omega
  refine ⟨by simp [lowerL]; omega, ?_⟩
  rw [List.getElem_append_right (by omega)]
  simp [hl]
theorem low_same (l : List UInt8) (k : Nat) (h : k < l.length) (x : UInt8) (hx : l[k] = x) (hv : lowerB x = x) : lowerL (l.take k) ++ l.drop k = lowerL (l.take (k + 1)) ++ l.drop (k + 1) := by
  rw [← low_step l k h, hx, hv, ← hx]
  obtain ⟨h2, h3⟩ := low_get l k h
  rw [← h3, List.set_getElem_self]
theorem low_len (l : List UInt8) (k : Nat) (h : k ≤ l.length) : (lowerL (l.take k) ++ l.drop k).length = l.length := by simp [lowerL]; omega

set_option maxRecDepth 100000 in
set_option maxHeartbeats 400000 in
theorem lower_any (s : ByteArray) (hs : s.size ≤ maxLen) (w : World) :
    Calls Tryd.prog 31 #[.string s] w fun e w' => e = .returned (.string (lowerS s)) ∧ Below w.heap.size w w' := by
  unfold maxLen at hs
  obtain ⟨W1, sp, hconv, hrow, hb⟩ := conv_bytes (P := Tryd.prog) w 9 91 s Tryd.underlying9 Tryd.underlying91 Tryd.underlying5
  have hgz : w.heap.size < W1.heap.size := hrow.lt
  generalize hg : w.heap.size = g at *
  go_enter Tryd.func31, Tryd.ntmps31
  go_wp2_with fail
  go_loopw [10] (fun i wr => ∃ k : Nat, k ≤ s.size ∧ i = .int .i64 k ∧ BRow wr g (lowerL (s.data.toList.take k) ++ s.data.toList.drop k) sp ∧ Below g w wr) (fun i _ => s.size - (intOf i).toNat)
  case atStart => exact ⟨0, Nat.zero_le _, rfl, by simpa [lowerL] using hrow, hb⟩
  case round =>
    obtain ⟨k, hk, rfl, hr, hb2⟩ := hrel
    by_cases hlt : k < s.size
    · have hkl : k < s.data.toList.length := by simpa using hlt
      obtain ⟨h2, hge⟩ := low_get s.data.toList k hkl
      have hcell := hr.cell h2
      have hfree := hr.free h2
      rw [hge] at hcell
      have hst := low_step s.data.toList k hkl
      have HS : ∀ v : Int, v = ((lowerB s.data.toList[k]).toNat : Int) → BRow (‹World›.setCell ⟨g, k, none⟩ (.int .u8 v)) g (lowerL (s.data.toList.take (k + 1)) ++ s.data.toList.drop (k + 1)) sp := by
        rintro v rfl
        have := hr.set h2 (lowerB s.data.toList[k])
        rw [hst] at this
        exact this
      clear hst hge h2
      have H2 := Lib.hid HS
      have HR := Lib.hid hr
      clear HS hr
      generalize hx : s.data.toList[k] = x at *
      have HX := Lib.hid hx
      clear hx
      obtain ⟨n, hn⟩ : ∃ n : Int, (x.toNat : Int) = n := ⟨_, rfl⟩
      have hn2 : n < 256 := by have := x.toNat_lt; omega
      have hn0 : 0 ≤ n := by omega
      rw [hn] at hcell
      have HN := Lib.hid hn
      clear hn
      by_cases c1 : 65 ≤ n ∧ n ≤ 90
      · obtain ⟨c1, c2⟩ := c1
        have hv : ((lowerB x).toNat : Int) = n + 32 := by
          have hn := HN.out
          have h1 : (65 : UInt8) ≤ x ∧ x ≤ 90 := by rw [UInt8.le_iff_toNat_le, UInt8.le_iff_toNat_le]; constructor <;> simp <;> omega
          rw [lowerB, if_pos h1, UInt8.toNat_add]
          simp; omega
        have HV := Lib.hid hv
        clear hv
        go_wp2
        go_roundw
        case rel => exact ⟨k + 1, by omega, by go_num, H2.out _ (by rw [HV.out]; omega), hb2.setCell (Nat.le_refl _) _⟩
        case measure => simp [intOf]; omega
      · have hv : lowerB x = x := by
          have hn := HN.out
          rw [lowerB, if_neg]
          rintro ⟨h1, h2⟩
          rw [UInt8.le_iff_toNat_le] at h1 h2
          simp at h1 h2
          omega
        have hr2 := HR.out
        have hst2 := low_same s.data.toList k (by simpa using hlt) x HX.out hv
        rw [hst2] at hr2
        have HR2 := Lib.hid hr2
        clear hr2 hv hst2
        by_cases c2 : 65 ≤ n
        · have c3 : 90 < n := by omega
          clear c1
          go_wp2
          go_roundw
          case rel => exact ⟨k + 1, by omega, by go_num, HR2.out, hb2⟩
          case measure => simp [intOf]; omega
        · have c3 : n < 65 := by omega
          clear c1 c2
          go_wp2
          go_roundw
          case rel => exact ⟨k + 1, by omega, by go_num, HR2.out, hb2⟩
          case measure => simp [intOf]; omega
    · have hke : k = s.data.toList.length := by simp; omega
      have hr2 : BRow ‹World› g (lowerL s.data.toList) sp := by rw [hke, List.take_length, List.drop_length, List.append_nil] at hr; exact hr
      have hback := conv_back hr2 91 9 Tryd.underlying91 Tryd.underlying5 Tryd.underlying9 (s.size + sp)
      have hll : (lowerL s.data.toList).length = s.size := by simp [lowerL]
      rw [hll] at hback
      clear hr hke hr2 hll
      go_wp2
      go_ret
      exact ⟨rfl, hb2⟩
end Go.Proofs.YtkbjklnkeammiaaDoor.Oct
