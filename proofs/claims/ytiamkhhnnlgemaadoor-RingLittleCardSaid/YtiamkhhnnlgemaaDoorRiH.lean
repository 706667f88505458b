/- slices.BinarySearchFunc at points; the ring's from, Len, Point. -/
import Derived.Test.YtiamkhhnnlgemaaDoorRiE
import Derived.Deep.CutRange
namespace Go.Proofs.YtiamkhhnnlgemaaDoor.Ri
open Go.RowKit Go.Sort Go.Lib Go.Shelf Go.Proofs.YtiamkhhnnlgemaaDoor.Sip Go.Proofs.YtiamkhhnnlgemaaDoor.Oct
set_option linter.unusedVariables false
/-- How many points are of a lesser number than x. -/
def lbN (ps : List Pt) (x : Int) : Nat := (ps.takeWhile (fun p => decide (p.1 < x))).length
theorem lbN_le (ps : List Pt) (x : Int) : lbN ps x ≤ ps.length := by
  unfold lbN
  exact (List.takeWhile_sublist _).length_le
theorem lbN_is : ∀ (ps : List Pt) (x : Int) (i : Nat), i ≤ ps.length → (∀ k p, k < i → ps[k]? = some p → p.1 < x) → (∀ p, ps[i]? = some p → ¬ p.1 < x) → lbN ps x = i
  | [], x, i, h, _, _ => by simp at h; subst h; rfl
  | p :: ps, x, 0, h, h1, h2 => by
    have := h2 p rfl
    unfold lbN
    rw [List.takeWhile_cons, decide_eq_false this]; rfl
  | p :: ps, x, i + 1, h, h1, h2 => by
    have h3 := h1 0 p (by omega) rfl
    have := lbN_is ps x i (by simpa using h) (fun k q hk hq => h1 (k + 1) q (by omega) hq) (fun q hq => h2 q hq)
    unfold lbN at *
    rw [List.takeWhile_cons, decide_eq_true h3, if_pos rfl, List.length_cons, this]
theorem srt_at {ps : List Pt} (h : SrtP ps) {i j : Nat} {p q : Pt} (hij : i ≤ j) (hp : ps[i]? = some p) (hq : ps[j]? = some q) : p.1 ≤ q.1 := by
  rcases Nat.lt_or_ge i j with hlt | hge
  · obtain ⟨hi, rfl⟩ := List.getElem?_eq_some_iff.1 hp
    obtain ⟨hj, rfl⟩ := List.getElem?_eq_some_iff.1 hq
    have := List.pairwise_iff_getElem.1 h i j hi hj hlt
    rcases Int.lt_or_le ps[j].1 ps[i].1 with h1 | h1
    · exact absurd (.inl h1) this
    · exact h1
  · have : i = j := by omega
    subst this
    rw [hp] at hq; cases hq; omega
def cmpF (p : Pt) (x : Int) : Int := if p.1 < x then -1 else 1
set_option maxHeartbeats 2000000 in
theorem cmpF_any (p : Pt) (x : Int) (W : World) : Calls Tryd.prog 45 #[.agg #[.int .u64 p.1, .string (mk p.2)], .int .u64 x] W fun e w' => e = .returned (.int .i64 (cmpF p x)) ∧ Below W.heap.size W w' := by
  have d1 := fun W' => compareU_any p.1 x W'
  have hX := Lib.hid (show orI (cmpZ p.1 x) 1 = cmpF p x by
    unfold orI cmpZ cmpF
    by_cases h : p.1 < x
    · simp [h]
    · by_cases h2 : x < p.1 <;> simp [h, h2])
  generalize cmpZ p.1 x = c1 at *
  have hB := (Below.refl _ W).alloc (Nat.le_refl _) (.cells #[.int .u64 p.1, .string (mk p.2)] 67)
  have hz : W.heap.size ≤ (W.alloc (.cells #[.int .u64 p.1, .string (mk p.2)] 67)).heap.size := by simp
  have hc := (new_two W (.int .u64 p.1) (.string (mk p.2)) 67).1
  have hn : ∀ a b T, ((W.alloc (.cells #[.int .u64 p.1, .string (mk p.2)] 67)).alloc (.cells #[a, b] T)).cell? ⟨W.heap.size + 1, 0, none⟩ = some a ∧ ((W.alloc (.cells #[.int .u64 p.1, .string (mk p.2)] 67)).alloc (.cells #[a, b] T)).cell? ⟨W.heap.size + 1, 1, none⟩ = some b := fun a b T => by
    have h := new_two (W.alloc (.cells #[.int .u64 p.1, .string (mk p.2)] 67)) a b T
    rw [World.size_alloc] at h; exact h
  go_enter Tryd.func45, Tryd.ntmps45
  go_wp2_with (first
    | (go_at_call 38; (with_reducible refine (d1 _).mono ?_); rintro e w1 ⟨rfl, rfl⟩)
    | (go_at_call 37; (with_reducible refine (or_any c1 1 (W.heap.size + 1) _ _ (hn _ _ _).1 (hn _ _ _).2).mono ?_); rintro e w3 ⟨rfl, rfl⟩))
  go_ret
  exact ⟨ret_i64 hX.out, hB.alloc hz _⟩
set_option maxRecDepth 100000 in
set_option maxHeartbeats 4000000 in
theorem bsearch_any (ps : List Pt) (hs : SrtP ps) (x : Int) (v : Value) (w : World) (hv : Pts w v ps) (hN : ps.length ≤ 1000000) :
    Calls Tryd.prog 44 #[v, .int .u64 x, .func (.func 45) #[] #[]] w fun e w' => e = .returned (.tuple #[.int .i64 (lbN ps x : Nat), .bool false]) ∧ Below w.heap.size w w' := by
  obtain ⟨A, c, rfl, hc, hr⟩ := hv
  have hb0 : Below w.heap.size w w := Below.refl _ _
  go_enter Tryd.func44, Tryd.ntmps44
  go_wp2
  generalize hg : w.heap.size = g at *
  go_loopw [9, 10] (fun iv jv wr => ∃ i j : Nat, i ≤ j ∧ j ≤ ps.length ∧ iv = .int .i64 i ∧ jv = .int .i64 j ∧ Hid (∀ k p, k < i → ps[k]? = some p → p.1 < x) ∧ Hid (∀ k p, j ≤ k → ps[k]? = some p → x ≤ p.1) ∧ Below g w wr) (fun iv jv _ => (intOf jv - intOf iv).toNat)
  case atStart => exact ⟨0, ps.length, Nat.zero_le _, Nat.le_refl _, rfl, rfl, Lib.hid (fun k p h => by omega), Lib.hid (fun k p h hp => by have := (List.getElem?_eq_some_iff.1 hp).1; omega), hb0⟩
  case round =>
    obtain ⟨i, j, hij, hj, rfl, rfl, h1, h2, hb⟩ := hrel
    have hgs : g ≤ wr.heap.size := by have := hb.size; omega
    by_cases c1 : i < j
    · obtain ⟨b, o, rfl, hbl, hx⟩ := hr (by omega)
      obtain ⟨h, hh⟩ : ∃ h, h = (i + j) / 2 := ⟨_, rfl⟩
      have hh' := Lib.hid hh
      have hlo : i ≤ h := by omega
      have hhi : h < j := by omega
      clear hh
      obtain ⟨p, hp⟩ : ∃ p, ps[h]? = some p := ⟨_, List.getElem?_eq_getElem (by omega)⟩
      obtain ⟨e0, e1⟩ := hx h p hp
      have q0 := (hb.cell (p := ⟨b, o + h * 2, none⟩) (by show b < g; omega)).trans e0
      have q1 := (hb.cell (p := ⟨b, o + h * 2 + 1, none⟩) (by show b < g; omega)).trans e1
      have hpH := Lib.hid hp
      have dF := fun W => cmpF_any p x W
      clear e0 e1 hx hp
      have z0 : (0 : Int) ≤ (h : Int) := by omega
      have z1 : (h : Int) < (ps.length : Int) := by omega
      go_upto_region 5 with fail
      have hm : ((i : Int) + (j : Int)) / 2 = (h : Int) := by rw [hh'.out]; omega
      rw [hm]
      clear hm
      by_cases c2 : p.1 < x
      · have e : cmpF p x = -1 := by unfold cmpF; rw [if_pos c2]
        rw [e] at dF
        have hn1 := Lib.hid (show ∀ k q, k < h + 1 → ps[k]? = some q → q.1 < x from fun k q hk hq => by
          have := srt_at hs (show k ≤ h by omega) hq hpH.out
          omega)
        clear e c2
        go_wp2_with (go_at_call 45; (with_reducible refine (dF _).mono ?_); rintro e w1 ⟨rfl, hb1⟩)
        go_roundw
        case rel => exact ⟨h + 1, j, by omega, hj, by go_num, rfl, hn1, h2, hb.trans (hb1.mono hgs)⟩
        case measure => simp [intOf]; omega
      · have e : cmpF p x = 1 := by unfold cmpF; rw [if_neg c2]
        rw [e] at dF
        have hn1 := Lib.hid (show ∀ k q, h ≤ k → ps[k]? = some q → x ≤ q.1 from fun k q hk hq => by
          have := srt_at hs hk hpH.out hq
          omega)
        clear e c2
        go_wp2_with (go_at_call 45; (with_reducible refine (dF _).mono ?_); rintro e w1 ⟨rfl, hb1⟩)
        go_roundw
        case rel => exact ⟨i, h, hlo, by omega, rfl, rfl, h1, hn1, hb.trans (hb1.mono hgs)⟩
        case measure => simp [intOf]; omega
    · have hji : j = i := by omega
      have hX := Lib.hid (show lbN ps x = i from lbN_is ps x i (by omega) h1.out (fun p hp => by have := h2.out i p (by omega) hp; omega))
      subst hji
      by_cases c3 : j < ps.length
      · obtain ⟨b, o, rfl, hbl, hx⟩ := hr (by omega)
        obtain ⟨p, hp⟩ : ∃ p, ps[j]? = some p := ⟨_, List.getElem?_eq_getElem c3⟩
        obtain ⟨e0, e1⟩ := hx j p hp
        have q0 := (hb.cell (p := ⟨b, o + j * 2, none⟩) (by show b < g; omega)).trans e0
        have q1 := (hb.cell (p := ⟨b, o + j * 2 + 1, none⟩) (by show b < g; omega)).trans e1
        have dF := fun W => cmpF_any p x W
        have e : cmpF p x = 1 := by unfold cmpF; rw [if_neg (by have := h2.out j p (Nat.le_refl _) hp; omega)]
        rw [e] at dF
        have z0 : (0 : Int) ≤ (j : Int) := by omega
        have z1 : (j : Int) < (ps.length : Int) := by omega
        clear e e0 e1 hx hp
        go_wp2_with (go_at_call 45; (with_reducible refine (dF _).mono ?_); rintro e w1 ⟨rfl, hb1⟩)
        go_ret2
        exact ⟨by rw [hX.out]; rfl, by (try rw [hg]); exact hb.trans (hb1.mono hgs)⟩
      · have z1 : ¬ (j : Int) < (ps.length : Int) := by omega
        go_wp2
        go_ret2
        exact ⟨by rw [hX.out]; rfl, by (try rw [hg]); exact hb⟩
def fromN (ps : List Pt) (x : Int) : Nat := if lbN ps x = ps.length then 0 else lbN ps x
theorem from_any (ps : List Pt) (hs : SrtP ps) (x : Int) (rb : Nat) (w : World) (hv : Rng w rb ps) (hN : ps.length ≤ 1000000) :
    Calls Tryd.prog 30 #[.pointer (some ⟨rb, 0, none⟩), .int .u64 x] w fun e w' => e = .returned (.int .i64 (fromN ps x : Nat)) ∧ Below w.heap.size w w' := by
  obtain ⟨v, hbk, hP⟩ := hv
  have dB := bsearch_any ps hs x v w hP hN
  have hc := hbk.cell (i := 0) rfl
  have hlt := hbk.lt
  have hll := lbN_le ps x
  obtain ⟨A, c, rfl, hcc, hr⟩ := hP
  by_cases c1 : lbN ps x = ps.length
  · have hX := Lib.hid (show fromN ps x = 0 by unfold fromN; rw [if_pos c1])
    rw [c1] at dB
    clear c1 hll
    go_enter Tryd.func30, Tryd.ntmps30
    go_wp2_with (go_at_call 44; refine dB.mono ?_; rintro e w1 ⟨rfl, hb1⟩; have hc1 := (hb1.cell (p := ⟨rb, 0, none⟩) hlt).trans hc)
    go_ret
    exact ⟨ret_i64 (by rw [hX.out]; rfl), hb1⟩
  · have hX := Lib.hid (show fromN ps x = lbN ps x by unfold fromN; rw [if_neg c1])
    have c2 : ((lbN ps x : Nat) : Int) ≠ (ps.length : Int) := by omega
    have c3 : (((lbN ps x : Nat) : Int) == (ps.length : Int)) = false := by rw [beq_eq_false_iff_ne]; exact c2
    generalize lbN ps x = i at *
    go_enter Tryd.func30, Tryd.ntmps30
    go_wp2_with (go_at_call 44; refine dB.mono ?_; rintro e w1 ⟨rfl, hb1⟩; have hc1 := (hb1.cell (p := ⟨rb, 0, none⟩) hlt).trans hc)
    go_ret
    exact ⟨ret_i64 (by rw [hX.out]), hb1⟩
theorem len_any (ps : List Pt) (rb : Nat) (w : World) (hv : Rng w rb ps) :
    Calls Tryd.prog 14 #[.pointer (some ⟨rb, 0, none⟩)] w fun e w' => e = .returned (.int .i64 (ps.length : Int)) ∧ w' = w := by
  obtain ⟨v, hbk, A, c, rfl, hcc, hr⟩ := hv
  have hc := hbk.cell (i := 0) rfl
  go_enter Tryd.func14, Tryd.ntmps14
  go_wp2
  go_ret
  exact ⟨rfl, rfl⟩
def ptAt (ps : List Pt) (i : Int) : Pt := if i < 0 then (0, []) else ps.getD i.toNat (0, [])
set_option maxHeartbeats 1000000 in
theorem point_any (ps : List Pt) (rb : Nat) (i : Int) (w : World) (hv : Rng w rb ps) (hN : ps.length ≤ 1000000) :
    Calls Tryd.prog 15 #[.pointer (some ⟨rb, 0, none⟩), .int .i64 i] w fun e w' => e = .returned (.tuple #[.int .u64 (ptAt ps i).1, .string (mk (ptAt ps i).2)]) ∧ Below w.heap.size w w' := by
  obtain ⟨v, hbk, A, c, rfl, hcc, hr⟩ := hv
  have hc := hbk.cell (i := 0) rfl
  by_cases c1 : i < 0
  · have hX := Lib.hid (show ptAt ps i = (0, []) by unfold ptAt; rw [if_pos c1])
    go_enter Tryd.func15, Tryd.ntmps15
    go_wp2
    go_ret2
    exact ⟨by rw [hX.out]; rfl, Below.refl _ _⟩
  · obtain ⟨k, rfl⟩ := Int.eq_ofNat_of_zero_le (show 0 ≤ i by omega)
    by_cases c2 : k < ps.length
    · obtain ⟨b, o, rfl, hbl, hx⟩ := hr (by omega)
      obtain ⟨p, hp⟩ : ∃ p, ps[k]? = some p := ⟨_, List.getElem?_eq_getElem c2⟩
      obtain ⟨e0, e1⟩ := hx k p hp
      have hX := Lib.hid (show ptAt ps (k : Int) = p by unfold ptAt; rw [if_neg c1, Int.toNat_natCast, List.getD_eq_getElem?_getD, hp]; rfl)
      have z1 : (k : Int) < (ps.length : Int) := by omega
      have z2 : ¬ (ps.length : Int) ≤ (k : Int) := by omega
      clear hx hp
      go_enter Tryd.func15, Tryd.ntmps15
      go_wp2
      go_quiet (fail)
      (try go_wp2)
      go_ret2
      exact ⟨by rw [hX.out]; rfl, below_drewN (Below.refl _ _) _⟩
    · have hX := Lib.hid (show ptAt ps (k : Int) = (0, []) by unfold ptAt; rw [if_neg c1, Int.toNat_natCast, List.getD_eq_getElem?_getD, List.getElem?_eq_none (by omega)]; rfl)
      have z2 : (ps.length : Int) ≤ (k : Int) := by omega
      have z1 : ¬ (k : Int) < (ps.length : Int) := by omega
      go_enter Tryd.func15, Tryd.ntmps15
      go_wp2
      go_ret2
      exact ⟨by rw [hX.out]; rfl, Below.refl _ _⟩
end Go.Proofs.YtiamkhhnnlgemaaDoor.Ri
