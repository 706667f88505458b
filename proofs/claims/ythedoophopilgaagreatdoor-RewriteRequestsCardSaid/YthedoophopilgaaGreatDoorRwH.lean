/- slices.DeleteFunc at fields; fields.Fields.Drop. -/
import Derived.Test.YthedoophopilgaaGreatDoorRwG
namespace Go.Proofs.YthedoophopilgaaGreatDoor.Rw
open Go.RowKit Go.Proofs.YthedoophopilgaaGreatDoor.Oct
set_option linter.unusedVariables false
theorem idx_at {α : Type} {p : α → Bool} {l : List α} (h : l.any p = true) : ∃ (k : Nat) (x : α), l[k]? = some x ∧ p x = true ∧ (∀ j y, j < k → l[j]? = some y → p y = false) ∧ idxF p l = (k : Int) := by
  have key : ∀ (l : List α), l.any p = true → ∃ (k : Nat) (x : α), l[k]? = some x ∧ p x = true ∧ (∀ j y, j < k → l[j]? = some y → p y = false) := by
    intro l
    induction l with
    | nil => intro h; simp at h
    | cons y l ih =>
      intro h
      cases hy : p y with
      | true => exact ⟨0, y, rfl, hy, fun j z hj => by omega⟩
      | false =>
        rw [List.any_cons, hy, Bool.false_or] at h
        obtain ⟨k, x, h1, h2, h3⟩ := ih h
        refine ⟨k + 1, x, by simpa using h1, h2, fun j z hj hz => ?_⟩
        cases j with
        | zero => simp at hz; subst hz; exact hy
        | succ j => exact h3 j z (by omega) (by simpa using hz)
  obtain ⟨k, x, h1, h2, h3⟩ := key l h
  exact ⟨k, x, h1, h2, h3, (idx_yes h1 h2 h3).2⟩
theorem idx_none {α : Type} {p : α → Bool} {l : List α} (h : l.any p = false) : idxF p l = -1 ∧ l.filter (fun x => !p x) = l := by
  refine ⟨by unfold idxF; rw [h]; rfl, ?_⟩
  rw [List.filter_eq_self]
  intro x hx
  rw [List.any_eq_false] at h
  simpa using h x hx
/-- What the row holds while DeleteFunc goes: j looked at, i kept. -/
structure Del {α : Type} (p : α → Bool) (xs dk : List α) (i j : Nat) : Prop where
  len : dk.length = xs.length
  lt : i < j
  le : j ≤ xs.length
  low : dk.take i = (xs.take j).filter (fun x => !p x)
  high : dk.drop j = xs.drop j
theorem Del.start {α : Type} {p : α → Bool} {xs : List α} {k : Nat} {x : α} (hk : xs[k]? = some x) (hp : p x = true) (hno : ∀ j y, j < k → xs[j]? = some y → p y = false) : Del p xs xs k (k + 1) := by
  obtain ⟨hl, hx⟩ := List.getElem?_eq_some_iff.1 hk
  refine ⟨rfl, by omega, by omega, ?_, rfl⟩
  rw [List.take_succ_eq_append_getElem hl, List.filter_append, hx]
  have : (xs.take k).filter (fun x => !p x) = xs.take k := by
    rw [List.filter_eq_self]
    intro y hy
    obtain ⟨j, hj, rfl⟩ := List.mem_iff_getElem.1 hy
    rw [List.length_take] at hj
    rw [List.getElem_take, hno j _ (by omega) (List.getElem?_eq_getElem (by omega))]; rfl
  rw [this]
  simp [hp]
theorem Del.at {α : Type} {p : α → Bool} {xs dk : List α} {i j : Nat} (h : Del p xs dk i j) (hj : j < xs.length) : dk[j]? = some xs[j] := by
  have := congrArg (·[0]?) h.high
  simpa [List.getElem?_drop, hj] using this
theorem Del.keep {α : Type} {p : α → Bool} {xs dk : List α} {i j : Nat} {x : α} (h : Del p xs dk i j) (hj : j < xs.length) (hx : xs[j] = x) (hp : p x = false) : Del p xs (dk.set i x) (i + 1) (j + 1) := by
  obtain ⟨h1, h2, h3, h4, h5⟩ := h
  refine ⟨by simp [h1], by omega, by omega, ?_, ?_⟩
  · rw [List.take_succ_eq_append_getElem hj, List.filter_append, ← h4, hx, List.take_succ_eq_append_getElem (by simp; omega), List.take_set_of_le (by omega)]
    simp [hp]
  · rw [List.drop_set_of_lt (by omega), ← List.drop_drop, ← List.drop_drop, h5]
theorem Del.skip {α : Type} {p : α → Bool} {xs dk : List α} {i j : Nat} {x : α} (h : Del p xs dk i j) (hj : j < xs.length) (hx : xs[j] = x) (hp : p x = true) : Del p xs dk i (j + 1) := by
  obtain ⟨h1, h2, h3, h4, h5⟩ := h
  refine ⟨h1, by omega, by omega, ?_, ?_⟩
  · rw [List.take_succ_eq_append_getElem hj, List.filter_append, ← h4, hx]
    simp [hp]
  · rw [← List.drop_drop, ← List.drop_drop, h5]
theorem Del.done {α : Type} {p : α → Bool} {xs dk : List α} {i : Nat} (h : Del p xs dk i xs.length) : dk.take i = xs.filter (fun x => !p x) ∧ (xs.filter (fun x => !p x)).length = i := by
  have h4 := h.low
  rw [List.take_of_length_le (Nat.le_refl _)] at h4
  refine ⟨h4, ?_⟩
  rw [← h4, List.length_take, h.len]
  have := h.lt
  omega
theorem flat_set (xs : List Fld) (i : Nat) (x : Fld) : (xs.set i x).flatMap fldV = ((xs.flatMap fldV).set (i * 2) (.string x.1)).set (i * 2 + 1) (.string x.2) := by
  induction xs generalizing i with
  | nil => rfl
  | cons y xs ih =>
    cases i with
    | zero => rfl
    | succ i =>
      rw [List.set_cons_succ, List.flatMap_cons, ih, List.flatMap_cons, show (i + 1) * 2 = i * 2 + 2 by omega]
      rfl
/-- 'clear(s)' at a slice of elements of two texts. -/
theorem run_clear_two {P : Program} (w : World) (t e ty : TypeId) (ht : P.underlying t = some (.slice e)) (hv : ∀ w, (zeroValue e).run P w = .ok (.agg #[.string ⟨#[]⟩, .string ⟨#[]⟩]) w) (b o n c : Nat) (hn : 0 < n)
    (hc : ∀ j, j < n * 2 → (w.cell? ⟨b, o + j, none⟩).isSome = true) (hf : ∀ j, j < n * 2 → w.frozen? ⟨b, o + j, none⟩ = false) :
    (Builtin.clear_ #[t] ty #[.slice (some ⟨b, o, none⟩) n c]).run P w = .ok (.tuple #[]) (w.setCells b o (List.replicate (n * 2) (.string ⟨#[]⟩))) := by
  have hzc : (Builtin.zeroCells (Value.agg #[.string ⟨#[]⟩, .string ⟨#[]⟩]).cells n).toList = List.replicate (n * 2) (.string ⟨#[]⟩) := by
    simp [Builtin.zeroCells, Value.cells]
    apply List.ext_getElem
    · simp
    · intro i h1 h2
      simp
      rcases (show i % 2 = 0 ∨ i % 2 = 1 by omega) with h | h <;> simp [h]
  have hst := run_storeCells_cells (P := P) b o (List.replicate (n * 2) (.string ⟨#[]⟩)) 0 w (by simpa using hc) (by simpa using hf) (by intro v hv'; rw [List.eq_of_mem_replicate hv']; rfl)
  simp only [Nat.add_zero] at hst
  obtain ⟨m, rfl⟩ : ∃ m, n = m + 1 := ⟨n - 1, by omega⟩
  simp [Builtin.clear_, run_underlying ht, hv, hzc, hst]
theorem zeroFld (w : World) : (zeroValue 41).run Tryz.prog w = .ok (.agg #[.string ⟨#[]⟩, .string ⟨#[]⟩]) w := by kernel_rfl
end Go.Proofs.YthedoophopilgaaGreatDoor.Rw
