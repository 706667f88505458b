/- Texts parted at one byte, in plain Lean: what strings.Cut and strings.Split say there. -/
import Derived.Lib.SplitLaws
import Derived.Lib.CutLaws
namespace Go.Proofs.YtkbjklnkeammiaaDoor.Oct
set_option linter.unusedVariables false
/-- Ahead of the first such byte, behind it, and whether there is one. -/
def splC (c : UInt8) : List UInt8 → List UInt8 × List UInt8 × Bool
  | [] => ([], [], false)
  | x :: r => if x = c then ([], r, true) else (x :: (splC c r).1, (splC c r).2.1, (splC c r).2.2)
/-- All parts. -/
def partsC (c : UInt8) : List UInt8 → List (List UInt8)
  | [] => [[]]
  | x :: r => if x = c then [] :: partsC c r else match partsC c r with | [] => [[x]] | p :: q => (x :: p) :: q
theorem splC_cons (c x : UInt8) (r : List UInt8) : splC c (x :: r) = if x = c then ([], r, true) else (x :: (splC c r).1, (splC c r).2.1, (splC c r).2.2) := by rw [splC]
theorem partsC_cons (c x : UInt8) (r : List UInt8) : partsC c (x :: r) = if x = c then [] :: partsC c r else match partsC c r with | [] => [[x]] | p :: q => (x :: p) :: q := by rw [partsC]
theorem splC_no {c : UInt8} {l : List UInt8} (h : l.all (fun x => x != c) = true) : splC c l = (l, [], false) := by
  induction l with
  | nil => rfl
  | cons x r ih =>
    rw [List.all_cons, Bool.and_eq_true] at h
    rw [splC_cons, if_neg (by simpa using h.1), ih h.2]
theorem splC_at {c : UInt8} {a b : List UInt8} (h : a.all (fun x => x != c) = true) : splC c (a ++ c :: b) = (a, b, true) := by
  induction a with
  | nil => rw [List.nil_append, splC_cons, if_pos rfl]
  | cons x r ih =>
    rw [List.all_cons, Bool.and_eq_true] at h
    rw [List.cons_append, splC_cons, if_neg (by simpa using h.1), ih h.2]
theorem splC_first (c : UInt8) (l : List UInt8) : (splC c l).1.all (fun x => x != c) = true := by
  induction l with
  | nil => rfl
  | cons x r ih =>
    rw [splC_cons]
    by_cases hx : x = c
    · rw [if_pos hx]; rfl
    · rw [if_neg hx, List.all_cons, ih]; simpa using hx
theorem splC_cat {c : UInt8} {l : List UInt8} (h : (splC c l).2.2 = true) : l = (splC c l).1 ++ c :: (splC c l).2.1 := by
  induction l with
  | nil => cases h
  | cons x r ih =>
    rw [splC_cons] at h ⊢
    by_cases hx : x = c
    · rw [if_pos hx, hx]; rfl
    · rw [if_neg hx] at h ⊢
      exact congrArg (x :: ·) (ih h)
theorem splC_none {c : UInt8} {l : List UInt8} (h : (splC c l).2.2 = false) : splC c l = (l, [], false) := by
  induction l with
  | nil => rfl
  | cons x r ih =>
    rw [splC_cons] at h ⊢
    by_cases hx : x = c
    · rw [if_pos hx] at h; cases h
    · rw [if_neg hx] at h ⊢
      rw [ih h]
theorem splC_all {c : UInt8} {l : List UInt8} (h : (splC c l).2.2 = false) : l.all (fun x => x != c) = true := by
  have h1 := splC_first c l
  rw [splC_none h] at h1
  exact h1
theorem partsC_ne (c : UInt8) (l : List UInt8) : partsC c l ≠ [] := by
  cases l with
  | nil => simp [partsC]
  | cons x r => rw [partsC_cons]; split; simp; split <;> simp
theorem partsC_no {c : UInt8} {l : List UInt8} (h : (splC c l).2.2 = false) : partsC c l = [l] := by
  induction l with
  | nil => rfl
  | cons x r ih =>
    rw [splC_cons] at h
    by_cases hx : x = c
    · rw [if_pos hx] at h; cases h
    · rw [if_neg hx] at h
      rw [partsC_cons, if_neg hx, ih h]
theorem partsC_at {c : UInt8} {l : List UInt8} (h : (splC c l).2.2 = true) : partsC c l = (splC c l).1 :: partsC c (splC c l).2.1 := by
  induction l with
  | nil => cases h
  | cons x r ih =>
    rw [splC_cons] at h ⊢
    rw [partsC_cons]
    by_cases hx : x = c
    · rw [if_pos hx, if_pos hx]
    · rw [if_neg hx] at h ⊢
      rw [if_neg hx, ih h]
theorem index_cons (c x : UInt8) (r : List UInt8) : Lib.index (x :: r) [c] = if x = c then 0 else if Lib.index r [c] = -1 then -1 else Lib.index r [c] + 1 := by
  rw [Lib.index]
  have e : ([c] : List UInt8).isPrefixOf (x :: r) = decide (x = c) := by
    simp only [List.isPrefixOf, Bool.and_true]
    by_cases h : x = c
    · subst h; simp
    · have h2 : (c == x) = false := by simpa using fun e => h e.symm
      rw [h2, decide_eq_false h]
  rw [e]
  by_cases h : x = c
  · rw [if_pos (by simpa using h), if_pos h]
  · rw [if_neg (by simpa using h), if_neg h]
    by_cases h2 : Lib.index r [c] = -1
    · rw [if_pos (by rw [h2]; rfl), if_pos h2]
    · rw [if_neg (by simpa using h2), if_neg h2]
/-- Where the first such byte is. -/
theorem index_spl (c : UInt8) (l : List UInt8) : Lib.index l [c] = if (splC c l).2.2 = true then ((splC c l).1.length : Int) else -1 := by
  induction l with
  | nil => rfl
  | cons x r ih =>
    rw [index_cons, splC_cons, ih]
    by_cases hx : x = c
    · rw [if_pos hx, if_pos hx]; rfl
    · rw [if_neg hx, if_neg hx]
      cases h : (splC c r).2.2
      · simp
      · simp
theorem cut_spl (c : UInt8) (l : List UInt8) : Lib.cut l [c] = splC c l := by
  unfold Lib.cut
  rw [index_spl]
  cases h : (splC c l).2.2
  · rw [if_neg (by rw [if_neg (by decide)]; decide), splC_none h]
  · have hc := splC_cat h
    rw [if_pos (by rw [if_pos rfl]; omega), if_pos rfl]
    have e3 : splC c l = ((splC c l).1, (splC c l).2.1, true) := by rw [← h]
    generalize splC c l = t at hc e3
    rw [e3, hc]
    simp
theorem splitK_parts (c : UInt8) : ∀ (n : Nat) (l : List UInt8), l.length ≤ n → Lib.splitK [c] 0 (Lib.count l [c]) l = partsC c l := by
  intro n
  induction n with
  | zero =>
    intro l h
    obtain rfl := List.eq_nil_of_length_eq_zero (Nat.le_zero.1 h)
    rfl
  | succ n ih =>
    intro l h
    have hi := index_spl c l
    cases hb : (splC c l).2.2
    · rw [hb, if_neg (by decide)] at hi
      rw [Lib.count_miss hi, partsC_no hb]; rfl
    · rw [hb, if_pos rfl] at hi
      rw [Lib.count_hit (by simp) hi, partsC_at hb, Nat.add_comm, Lib.splitK, if_neg (by rw [hi]; simp)]
      have hc := splC_cat hb
      have e1 : ∀ m : Nat, m = (splC c l).1.length → l.take m = (splC c l).1 := by
        intro m hm
        rw [hm]
        generalize splC c l = t at hc
        rw [hc]; simp
      have e2 : ∀ m : Nat, m = (splC c l).1.length + 1 → l.drop m = (splC c l).2.1 := by
        intro m hm
        rw [hm]
        generalize splC c l = t at hc
        rw [hc]; simp
      rw [e1 _ (by rw [hi]; rfl), e2 ((Lib.index l [c]).toNat + _) (by rw [hi]; rfl), e2 ((splC c l).1.length + [c].length) rfl, ih]
      have := congrArg List.length hc
      simp at this
      omega
end Go.Proofs.YtkbjklnkeammiaaDoor.Oct
