/- rewrite.kept, slices.IndexFunc and ContainsFunc at texts. -/
import Derived.Test.YthedoophopilgaaGreatDoorRwE
namespace Go.Proofs.YthedoophopilgaaGreatDoor.Rw
open Go.RowKit Go.Proofs.YthedoophopilgaaGreatDoor.Oct
set_option linter.unusedVariables false
set_option maxHeartbeats 1000000 in
theorem ret_int {k : IntKind} {a b : Int} (h : a = b) : Ending.returned (.int k a) = .returned (.int k b) := by rw [h]
theorem kept_any (t : ByteArray) (w : World) :
    Calls Tryz.prog 26 #[.string t] w fun e w' => e = .returned (.bool (keptB t)) ∧ w = w' := by
  have h1 := lit_host t
  have h2 := lit_clen t
  have hK := Lib.hid (show keptB t = (decide (t = hostS) || decide (t = clenS)) from rfl)
  cases e1 : decide (t = hostS) with
  | true =>
    rw [e1] at h1
    have hY := Lib.hid (show keptB t = true by rw [hK.out, e1]; rfl)
    clear e1 h2
    go_enter Tryz.func26, Tryz.ntmps26
    go_wp2
    go_ret
    exact ⟨ret_bool hY.out.symm, rfl⟩
  | false =>
    rw [e1] at h1
    cases e2 : decide (t = clenS) with
    | true =>
      rw [e2] at h2
      have hY := Lib.hid (show keptB t = true by rw [hK.out, e1, e2]; rfl)
      clear e1 e2
      go_enter Tryz.func26, Tryz.ntmps26
      go_wp2
      go_ret
      exact ⟨ret_bool hY.out.symm, rfl⟩
    | false =>
      rw [e2] at h2
      have hY := Lib.hid (show keptB t = false by rw [hK.out, e1, e2]; rfl)
      clear e1 e2
      go_enter Tryz.func26, Tryz.ntmps26
      go_wp2
      go_ret
      exact ⟨ret_bool hY.out.symm, rfl⟩
/-- Where the first one is, or -1. -/
def idxF {α : Type} (p : α → Bool) (l : List α) : Int := if l.any p = true then ((l.takeWhile (fun x => !p x)).length : Int) else -1
theorem idx_no {α : Type} {p : α → Bool} {l : List α} (h : ∀ j x, j < l.length → l[j]? = some x → p x = false) : l.any p = false ∧ idxF p l = -1 := by
  have : l.any p = false := by
    rw [List.any_eq_false]
    intro x hx
    obtain ⟨j, hj, rfl⟩ := List.mem_iff_getElem.1 hx
    simp [h j _ hj (List.getElem?_eq_getElem hj)]
  exact ⟨this, by unfold idxF; rw [this]; rfl⟩
theorem idx_yes {α : Type} {p : α → Bool} : ∀ {l : List α} {k : Nat} {x : α}, l[k]? = some x → p x = true → (∀ j y, j < k → l[j]? = some y → p y = false) → l.any p = true ∧ idxF p l = (k : Int) := by
  intro l k x hk hp hno
  have ha : l.any p = true := List.any_eq_true.2 ⟨x, List.mem_of_getElem? hk, hp⟩
  refine ⟨ha, ?_⟩
  unfold idxF
  rw [if_pos ha]
  congr 1
  clear ha
  induction l generalizing k with
  | nil => simp at hk
  | cons y l ih =>
    cases k with
    | zero =>
      simp at hk; subst hk
      rw [List.takeWhile_cons, hp]; rfl
    | succ k =>
      have h0 := hno 0 y (by omega) rfl
      rw [List.takeWhile_cons, h0]
      have := ih (k := k) (by simpa using hk) (fun j z hj hz => hno (j + 1) z (by omega) (by simpa using hz))
      simp [this]
theorem step_noA {α : Type} {ts : List α} {p : α → Bool} {k : Nat} {x : α} (hk : ts[k]? = some x) (hp : p x = false) (h : Hid (∀ j y, j < k → ts[j]? = some y → p y = false)) : Hid (∀ j y, j < k + 1 → ts[j]? = some y → p y = false) := by
  intro j y hj hy
  rcases Nat.lt_or_ge j k with h1 | h1
  · exact h j y h1 hy
  · obtain rfl : j = k := by omega
    rw [hk] at hy; cases hy; exact hp
set_option maxRecDepth 100000 in
set_option maxHeartbeats 4000000 in
theorem idxKept_any (ts : List ByteArray) (v : Value) (w : World) (hv : Strs w v ts) (hN : ts.length ≤ 1000000) :
    Calls Tryz.prog 38 #[v, .func (.func 26) #[] #[]] w fun e w' => e = .returned (.int .i64 (idxF keptB ts)) ∧ Below w.heap.size w w' := by
  obtain ⟨A, c, rfl, hc, hr⟩ := hv
  go_enter Tryz.func38, Tryz.ntmps38
  go_wp2
  go_loopw [8] (fun i wr => ∃ k : Nat, k ≤ ts.length ∧ i = .int .i64 k ∧ Hid (∀ j y, j < k → ts[j]? = some y → keptB y = false) ∧ Below w.heap.size w wr) (fun i _ => ts.length - (intOf i).toNat)
  case atStart => exact ⟨0, Nat.zero_le _, rfl, Lib.hid (fun j y h => by omega), Below.refl _ _⟩
  case round =>
    obtain ⟨k, hk, rfl, hno, hb⟩ := hrel
    by_cases c1 : k < ts.length
    · obtain ⟨b, o, rfl, hlt, hx⟩ := hr (by omega)
      have hxk : ts[k]? = some ts[k] := List.getElem?_eq_getElem c1
      have hc0 := (hb.cell (p := ⟨b, o + k, none⟩) (by show b < _; omega)).trans (hx k ts[k] hxk)
      have hxh := Lib.hid hxk
      have dK := fun W => kept_any ts[k] W
      generalize ts[k] = x at *
      clear hxk hx
      cases hp : keptB x with
      | true =>
        rw [hp] at dK
        have hY := Lib.hid (idx_yes hxh.out hp hno.out).2
        clear hp
        go_wp2_with (go_at_call 26; (with_reducible refine (dK _).mono ?_); rintro e w3 ⟨rfl, rfl⟩)
        go_ret
        exact ⟨ret_int hY.out.symm, hb⟩
      | false =>
        rw [hp] at dK
        have hn2 := step_noA hxh.out hp hno
        clear hp
        go_wp2_with (go_at_call 26; (with_reducible refine (dK _).mono ?_); rintro e w3 ⟨rfl, rfl⟩)
        go_roundw
        case rel => exact ⟨k + 1, by omega, by go_num, hn2, hb⟩
        case measure => simp [intOf]; omega
    · have hY := Lib.hid (idx_no (p := keptB) (l := ts) (fun j x hj hx => hno.out j x (by omega) hx)).2
      go_wp2
      go_ret
      exact ⟨ret_int hY.out.symm, hb⟩
set_option maxRecDepth 100000 in
set_option maxHeartbeats 4000000 in
theorem idxIs_any (f : Fld) (hf : f.1.size ≤ 1000000) (ts : List ByteArray) (hT : ∀ t ∈ ts, t.size ≤ 1000000) (v : Value) (w : World) (hv : Strs w v ts) (hN : ts.length ≤ 1000000) :
    Calls Tryz.prog 38 #[v, .func (.func 44) #[.agg #[.string f.1, .string f.2]] #[]] w fun e w' => e = .returned (.int .i64 (idxF (isF f) ts)) ∧ Below w.heap.size w w' := by
  obtain ⟨A, c, rfl, hc, hr⟩ := hv
  go_enter Tryz.func38, Tryz.ntmps38
  go_wp2
  go_loopw [8] (fun i wr => ∃ k : Nat, k ≤ ts.length ∧ i = .int .i64 k ∧ Hid (∀ j y, j < k → ts[j]? = some y → isF f y = false) ∧ Below w.heap.size w wr) (fun i _ => ts.length - (intOf i).toNat)
  case atStart => exact ⟨0, Nat.zero_le _, rfl, Lib.hid (fun j y h => by omega), Below.refl _ _⟩
  case round =>
    obtain ⟨k, hk, rfl, hno, hb⟩ := hrel
    by_cases c1 : k < ts.length
    · obtain ⟨b, o, rfl, hlt, hx⟩ := hr (by omega)
      have hxk : ts[k]? = some ts[k] := List.getElem?_eq_getElem c1
      have hc0 := (hb.cell (p := ⟨b, o + k, none⟩) (by show b < _; omega)).trans (hx k ts[k] hxk)
      have hxh := Lib.hid hxk
      have dK := fun W => is_any f ts[k] (by unfold maxLen; omega) (by have := hT ts[k] (by simp); unfold maxLen; omega) W
      have hsz := hb.size
      generalize ts[k] = x at *
      clear hxk hx
      cases hp : isF f x with
      | true =>
        rw [hp] at dK
        have hY := Lib.hid (idx_yes hxh.out hp hno.out).2
        clear hp
        go_wp2_with (go_at_call 44; (with_reducible refine (dK _).mono ?_); rintro e w3 ⟨rfl, hb3⟩)
        go_ret
        exact ⟨ret_int hY.out.symm, hb.trans (hb3.mono hsz)⟩
      | false =>
        rw [hp] at dK
        have hn2 := step_noA hxh.out hp hno
        clear hp
        go_wp2_with (go_at_call 44; (with_reducible refine (dK _).mono ?_); rintro e w3 ⟨rfl, hb3⟩)
        go_roundw
        case rel => exact ⟨k + 1, by omega, by go_num, hn2, hb.trans (hb3.mono hsz)⟩
        case measure => simp [intOf]; omega
    · have hY := Lib.hid (idx_no (p := isF f) (l := ts) (fun j x hj hx => hno.out j x (by omega) hx)).2
      go_wp2
      go_ret
      exact ⟨ret_int hY.out.symm, hb⟩
theorem idx_sign {α : Type} (p : α → Bool) (l : List α) : decide (0 ≤ idxF p l) = l.any p := by
  unfold idxF
  cases h : l.any p
  · simp
  · simp
set_option maxHeartbeats 1000000 in
theorem contIs_any (f : Fld) (hf : f.1.size ≤ 1000000) (ts : List ByteArray) (hT : ∀ t ∈ ts, t.size ≤ 1000000) (v : Value) (w : World) (hv : Strs w v ts) (hN : ts.length ≤ 1000000) :
    Calls Tryz.prog 43 #[v, .func (.func 44) #[.agg #[.string f.1, .string f.2]] #[]] w fun e w' => e = .returned (.bool (ts.any (isF f))) ∧ Below w.heap.size w w' := by
  have d := idxIs_any f hf ts hT v w hv hN
  have hs := Lib.hid (idx_sign (isF f) ts)
  generalize idxF (isF f) ts = i at *
  go_enter Tryz.func43, Tryz.ntmps43
  go_wp2_with (go_at_call 38; (with_reducible refine d.mono ?_); rintro e w3 ⟨rfl, hb3⟩)
  go_ret
  exact ⟨ret_bool hs.out, hb3⟩
end Go.Proofs.YthedoophopilgaaGreatDoor.Rw
