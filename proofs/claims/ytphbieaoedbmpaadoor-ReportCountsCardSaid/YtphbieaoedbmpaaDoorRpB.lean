/- Notes in memory; the document's counts. -/
import Derived.Test.YtphbieaoedbmpaaDoorRpA
namespace Go.Proofs.YtphbieaoedbmpaaDoor.Rp
open Go.RowKit Go.Maps Go.Sort Go.Shelf Go.Proofs.YtphbieaoedbmpaaDoor.Oct
set_option linter.unusedVariables false
/-- A note. -/
structure Nt where
  now : Int
  kind : Int
  conn : Int
  name : List UInt8
  text : List UInt8
/-- Its cells: the document's, the program's. -/
def ntR (x : Nt) : List Value := [.int .i64 x.now, .int .i64 x.kind, .int .i64 x.conn, .string (mk x.name), .string (mk x.text)]
def ntP (x : Nt) : List Value := [.int .i64 x.kind, .int .i64 x.conn, .string (mk x.name), .string (mk x.text), .int .i64 x.now]
def ntE (x : Nt) : List Value := [.int .i64 x.kind, .int .i64 x.conn, .string (mk x.name), .string (mk x.text)]
theorem flat5_len {α : Type} (f : α → List Value) (z : Nat) (hf : ∀ x, (f x).length = z) (xs : List α) : (xs.flatMap f).length = xs.length * z := by
  induction xs with
  | nil => simp
  | cons x xs ih => rw [List.flatMap_cons, List.length_append, ih, hf, List.length_cons, Nat.succ_mul]; omega
theorem flat5_get {α : Type} (f : α → List Value) (z : Nat) (hf : ∀ x, (f x).length = z) : ∀ (xs : List α) (i : Nat) (x : α), xs[i]? = some x → ∀ k, k < z → (xs.flatMap f)[i * z + k]? = (f x)[k]?
  | [], i, x, h, k, hk => by simp at h
  | y :: xs, 0, x, h, k, hk => by
    simp at h
    subst h
    rw [List.flatMap_cons, Nat.zero_mul, Nat.zero_add, List.getElem?_append_left (by rw [hf]; exact hk)]
  | y :: xs, i + 1, x, h, k, hk => by
    rw [List.flatMap_cons, List.getElem?_append_right (by rw [hf, Nat.succ_mul]; omega), hf, show (i + 1) * z + k - z = i * z + k by rw [Nat.succ_mul]; omega]
    exact flat5_get f z hf xs i x (by simpa using h) k hk
/-- A slice value reads as these notes. -/
def Nts (f : Nt → List Value) (w : World) (v : Value) (xs : List Nt) : Prop :=
  ∃ A c, v = .slice A xs.length c ∧ xs.length ≤ c ∧ (0 < xs.length → ∃ b o, A = some ⟨b, o, none⟩ ∧ b < w.heap.size ∧ ∀ j x, xs[j]? = some x → ∀ k u, (f x)[k]? = some u → w.cell? ⟨b, o + j * 5 + k, none⟩ = some u)
theorem Nts.below {f : Nt → List Value} {w w' : World} {v : Value} {xs : List Nt} (h : Nts f w v xs) (hb : Below w.heap.size w w') : Nts f w' v xs := by
  obtain ⟨A, c, hv, hc, hr⟩ := h
  refine ⟨A, c, hv, hc, fun hp => ?_⟩
  obtain ⟨b, o, hA, hlt, hx⟩ := hr hp
  exact ⟨b, o, hA, Nat.lt_of_lt_of_le hlt hb.size, fun j x hj k u hu => (hb.cell (p := ⟨b, o + j * 5 + k, none⟩) hlt).trans (hx j x hj k u hu)⟩
/-- Notes in a row of the call's own. -/
def OwnN (e : TypeId) (f : Nt → List Value) (w : World) (base : Nat) (v : Value) (xs : List Nt) : Prop := w.ownsRow base e 5 v xs.length (xs.flatMap f)
theorem OwnN.nts {e : TypeId} {f : Nt → List Value} (hf : ∀ x, (f x).length = 5) {w : World} {base : Nat} {v : Value} {xs : List Nt} (h : OwnN e f w base v xs) : Nts f w v xs := by
  have h' : w.ownsRow base e 5 v xs.length (xs.flatMap f) := h
  rcases h.2 with ⟨rfl, h0⟩ | ⟨g, cap, cur, rfl, hb, hg, h1, h2, h3, h4⟩
  · exact ⟨none, 0, by rw [h0], by omega, fun hp => by omega⟩
  · refine ⟨_, cap, rfl, h1, fun _ => ⟨g, 0, rfl, (Array.getElem?_eq_some_iff.1 hg).1, fun j x hj k u hu => ?_⟩⟩
    have hj2 : j < xs.length := (List.getElem?_eq_some_iff.1 hj).1
    have hk : k < 5 := by rw [← hf x]; exact (List.getElem?_eq_some_iff.1 hu).1
    rw [Nat.zero_add, h'.cellAt (j * 5 + k) (by omega), flat5_get f 5 hf xs j x hj k hk]
    exact hu
theorem ntR_len (x : Nt) : (ntR x).length = 5 := rfl
theorem ntP_len (x : Nt) : (ntP x).length = 5 := rfl
/-! ### The counts -/
def cntN (k : Int) (xs : List Nt) : Nat := (xs.filter (fun x => decide (x.kind = k))).length
def bytN (k : Int) (xs : List Nt) : Nat := ((xs.filter (fun x => decide (x.kind = k))).map (fun x => x.text.length)).sum
def choN (n : List UInt8) (xs : List Nt) : Nat := (xs.filter (fun x => decide (x.kind = 10) && decide (x.name = n))).length
theorem cnt_app (k : Int) (xs : List Nt) (x : Nt) : cntN k (xs ++ [x]) = cntN k xs + if x.kind = k then 1 else 0 := by
  unfold cntN
  rw [List.filter_append, List.length_append]
  by_cases h : x.kind = k <;> simp [h]
theorem byt_app (k : Int) (xs : List Nt) (x : Nt) : bytN k (xs ++ [x]) = bytN k xs + if x.kind = k then x.text.length else 0 := by
  unfold bytN
  rw [List.filter_append, List.map_append, List.sum_append]
  by_cases h : x.kind = k <;> simp [h]
theorem cho_app (n : List UInt8) (xs : List Nt) (x : Nt) : choN n (xs ++ [x]) = choN n xs + if x.kind = 10 ∧ x.name = n then 1 else 0 := by
  unfold choN
  rw [List.filter_append, List.length_append]
  by_cases h1 : x.kind = 10 <;> by_cases h2 : x.name = n <;> simp [h1, h2]
theorem cnt_le (k : Int) (xs : List Nt) : cntN k xs ≤ xs.length := List.length_filter_le _ _
theorem cho_le (n : List UInt8) (xs : List Nt) : choN n xs ≤ xs.length := List.length_filter_le _ _
theorem byt_le (k : Int) (M : Nat) : ∀ (xs : List Nt), (∀ x ∈ xs, x.text.length ≤ M) → bytN k xs ≤ xs.length * M
  | [], _ => Nat.zero_le _
  | x :: xs, h => by
    have h1 := byt_le k M xs (fun y hy => h y (List.mem_cons_of_mem _ hy))
    have h2 := h x List.mem_cons_self
    unfold bytN at h1 ⊢
    rw [List.filter_cons]
    split
    · rw [List.map_cons, List.sum_cons, List.length_cons, Nat.succ_mul]; omega
    · rw [List.length_cons, Nat.succ_mul]; omega
set_option maxRecDepth 100000 in
set_option maxHeartbeats 1000000 in
theorem refCount_any (xs : List Nt) (kd : Int) (v : Value) (w : World) (hv : Nts ntR w v xs) (hN : xs.length ≤ 1000) (hT : ∀ x ∈ xs, x.text.length ≤ 1000) :
    Calls Tryd.prog 7 #[v, .int .i64 kd] w fun e w' => e = .returned (.tuple #[.int .i64 (cntN kd xs), .int .i64 (bytN kd xs)]) ∧ Below w.heap.size w w' := by
  obtain ⟨A, c, rfl, hc, hr⟩ := hv
  have hb0 : Below w.heap.size w w := Below.refl _ _
  go_enter Tryd.func7, Tryd.ntmps7
  go_wp2
  generalize hg : w.heap.size = g at *
  go_loopw [6, 7, 12] (fun n b i wr => ∃ k : Nat, k ≤ xs.length ∧ i = .int .i64 k ∧ n = .int .i64 (cntN kd (xs.take k)) ∧ b = .int .i64 (bytN kd (xs.take k)) ∧ Below g w wr) (fun _ _ i _ => xs.length - (intOf i).toNat)
  case atStart => exact ⟨0, Nat.zero_le _, rfl, rfl, rfl, hb0⟩
  case round =>
    obtain ⟨k, hk, rfl, rfl, rfl, hb⟩ := hrel
    have hgw : g ≤ wr.heap.size := by have := hb.size; omega
    by_cases c1 : k < xs.length
    · obtain ⟨b, o, rfl, hlt, hx⟩ := hr (by omega)
      have hx0 := hx k xs[k] (by simp [c1])
      have hc0 := (hb.cell (p := ⟨b, o + k * 5, none⟩) (by omega)).trans (hx0 0 _ rfl)
      have hc1 := (hb.cell (p := ⟨b, o + k * 5 + 1, none⟩) (by omega)).trans (hx0 1 _ rfl)
      have hc2 := (hb.cell (p := ⟨b, o + k * 5 + 2, none⟩) (by omega)).trans (hx0 2 _ rfl)
      have hc3 := (hb.cell (p := ⟨b, o + k * 5 + 3, none⟩) (by omega)).trans (hx0 3 _ rfl)
      have hc4 := (hb.cell (p := ⟨b, o + k * 5 + 4, none⟩) (by omega)).trans (hx0 4 _ rfl)
      have htk := List.take_succ_eq_append_getElem c1
      have e1 := cnt_app kd (xs.take k) xs[k]
      have e2 := byt_app kd (xs.take k) xs[k]
      rw [← htk] at e1 e2
      replace e1 := Lib.hid e1
      replace e2 := Lib.hid e2
      have z1 := cnt_le kd (xs.take k)
      have z2 := byt_le kd 1000 (xs.take k) (fun x h => hT x (List.mem_of_mem_take h))
      have z3 : (xs.take k).length ≤ 1000 := by rw [List.length_take]; omega
      have z4 := hT xs[k] (by simp)
      have z5 : ((mk xs[k].text).size : Int) = xs[k].text.length := by rw [mk_size]
      clear htk hx0 hx
      generalize xs[k] = x at *
      generalize cntN kd (xs.take k) = n1 at *
      generalize bytN kd (xs.take k) = b1 at *
      by_cases hkd : x.kind = kd
      · rw [if_pos hkd] at e1 e2
        go_wp2
        go_roundw
        case rel => exact ⟨k + 1, by omega, by go_num, by rw [e1.out]; go_num, by rw [e2.out]; go_num, hb.alloc hgw _⟩
        case measure => simp [intOf]; omega
      · rw [if_neg hkd] at e1 e2
        go_wp2
        go_roundw
        case rel => exact ⟨k + 1, by omega, by go_num, by rw [e1.out]; rfl, by rw [e2.out]; rfl, hb.alloc hgw _⟩
        case measure => simp [intOf]; omega
    · have hk : k = xs.length := by omega
      subst hk
      rw [List.take_of_length_le (Nat.le_refl _)]
      go_wp2
      go_ret2
      refine ⟨rfl, ?_⟩
      rw [hg]
      exact hb
set_option maxRecDepth 100000 in
set_option maxHeartbeats 1000000 in
theorem refChosen_any (xs : List Nt) (nm : List UInt8) (v : Value) (w : World) (hv : Nts ntR w v xs) (hN : xs.length ≤ 1000) :
    Calls Tryd.prog 11 #[v, .string (mk nm)] w fun e w' => e = .returned (.int .i64 (choN nm xs)) ∧ Below w.heap.size w w' := by
  obtain ⟨A, c, rfl, hc, hr⟩ := hv
  have hb0 : Below w.heap.size w w := Below.refl _ _
  go_enter Tryd.func11, Tryd.ntmps11
  go_wp2
  generalize hg : w.heap.size = g at *
  go_loopw [5, 10] (fun n i wr => ∃ k : Nat, k ≤ xs.length ∧ i = .int .i64 k ∧ n = .int .i64 (choN nm (xs.take k)) ∧ Below g w wr) (fun _ i _ => xs.length - (intOf i).toNat)
  case atStart => exact ⟨0, Nat.zero_le _, rfl, rfl, hb0⟩
  case round =>
    obtain ⟨k, hk, rfl, rfl, hb⟩ := hrel
    have hgw : g ≤ wr.heap.size := by have := hb.size; omega
    by_cases c1 : k < xs.length
    · obtain ⟨b, o, rfl, hlt, hx⟩ := hr (by omega)
      have hx0 := hx k xs[k] (by simp [c1])
      have hc0 := (hb.cell (p := ⟨b, o + k * 5, none⟩) (by omega)).trans (hx0 0 _ rfl)
      have hc1 := (hb.cell (p := ⟨b, o + k * 5 + 1, none⟩) (by omega)).trans (hx0 1 _ rfl)
      have hc2 := (hb.cell (p := ⟨b, o + k * 5 + 2, none⟩) (by omega)).trans (hx0 2 _ rfl)
      have hc3 := (hb.cell (p := ⟨b, o + k * 5 + 3, none⟩) (by omega)).trans (hx0 3 _ rfl)
      have hc4 := (hb.cell (p := ⟨b, o + k * 5 + 4, none⟩) (by omega)).trans (hx0 4 _ rfl)
      have htk := List.take_succ_eq_append_getElem c1
      have e1 := cho_app nm (xs.take k) xs[k]
      rw [← htk] at e1
      replace e1 := Lib.hid e1
      have z1 := cho_le nm (xs.take k)
      have z3 : (xs.take k).length ≤ 1000 := by rw [List.length_take]; omega
      have hme := mk_eq xs[k].name nm
      clear htk hx0 hx
      generalize xs[k] = x at *
      generalize choN nm (xs.take k) = n1 at *
      by_cases h1 : x.kind = 10
      · by_cases h2 : x.name = nm
        · rw [if_pos ⟨h1, h2⟩] at e1
          rw [decide_eq_true h2] at hme
          clear h2
          go_wp2
          go_roundw
          case rel => exact ⟨k + 1, by omega, by go_num, by rw [e1.out]; go_num, hb.alloc hgw _⟩
          case measure => simp [intOf]; omega
        · rw [if_neg (fun h => h2 h.2)] at e1
          rw [decide_eq_false h2] at hme
          clear h2
          go_wp2
          go_roundw
          case rel => exact ⟨k + 1, by omega, by go_num, by rw [e1.out]; rfl, hb.alloc hgw _⟩
          case measure => simp [intOf]; omega
      · rw [if_neg (fun h => h1 h.1)] at e1
        go_wp2
        go_roundw
        case rel => exact ⟨k + 1, by omega, by go_num, by rw [e1.out]; rfl, hb.alloc hgw _⟩
        case measure => simp [intOf]; omega
    · have hk : k = xs.length := by omega
      subst hk
      rw [List.take_of_length_le (Nat.le_refl _)]
      go_wp2
      go_ret
      refine ⟨rfl, ?_⟩
      rw [hg]
      exact hb
end Go.Proofs.YtphbieaoedbmpaaDoor.Rp
