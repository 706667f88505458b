/- Points on the circle, plain. -/
import Derived.Test.YtiamkhhnnlgemaaDoorRiA
namespace Go.Proofs.YtiamkhhnnlgemaaDoor.Ri
open Go.RowKit Go.Proofs.YtiamkhhnnlgemaaDoor.Sip Go.Proofs.YtiamkhhnnlgemaaDoor.Oct
set_option linter.unusedVariables false
abbrev Pt := Int × List UInt8
def ptV (p : Pt) : List Value := [.int .u64 p.1, .string (mk p.2)]
/-- By numbers, then by names. -/
def ltP (x y : Pt) : Prop := x.1 < y.1 ∨ (x.1 = y.1 ∧ x.2 < y.2)
instance : DecidableRel ltP := fun x y => by unfold ltP; exact inferInstance
def SrtP (ys : List Pt) : Prop := ys.Pairwise (fun x y => ¬ ltP y x)
theorem list_tri {a b : List UInt8} (h1 : ¬ a < b) (h2 : ¬ b < a) : a = b := List.le_antisymm (List.not_lt.1 h2) (List.not_lt.1 h1)
theorem ltP_tri {x y : Pt} (h1 : ¬ ltP x y) (h2 : ¬ ltP y x) : x = y := by
  unfold ltP at h1 h2
  have e1 : x.1 = y.1 := by
    rcases Int.lt_trichotomy x.1 y.1 with h | h | h
    · exact absurd (.inl h) h1
    · exact h
    · exact absurd (.inl h) h2
  have e2 : x.2 = y.2 := list_tri (fun h => h1 (.inr ⟨e1, h⟩)) (fun h => h2 (.inr ⟨e1.symm, h⟩))
  exact Prod.ext e1 e2
theorem ltP_irrefl (x : Pt) : ¬ ltP x x := by
  rintro (h | ⟨_, h⟩)
  · omega
  · exact List.lt_irrefl _ h
theorem ltP_trans {x y z : Pt} (h1 : ltP x y) (h2 : ltP y z) : ltP x z := by
  rcases h1 with h1 | ⟨e1, h1⟩ <;> rcases h2 with h2 | ⟨e2, h2⟩
  · exact .inl (by omega)
  · exact .inl (by omega)
  · exact .inl (by omega)
  · exact .inr ⟨by omega, List.lt_trans h1 h2⟩
/-- What is no more than y, and y no more than z. -/
theorem leP_trans {x y z : Pt} (h1 : ¬ ltP y x) (h2 : ¬ ltP z y) : ¬ ltP z x := by
  intro h
  by_cases c : ltP x y
  · exact h2 (ltP_trans h c)
  · have := ltP_tri c h1
    subst this
    exact h2 h
theorem srtP_unique {ys zs : List Pt} (h : ys.Perm zs) (s1 : SrtP ys) (s2 : SrtP zs) : ys = zs :=
  List.Perm.eq_of_pairwise (le := fun x y : Pt => ¬ ltP y x) (fun a b _ _ h3 h4 => ltP_tri h4 h3) s1 s2 h
/-- Where an insertion from behind stops. -/
def stopK (l : List Pt) (p : Pt) : Nat → Nat
  | 0 => 0
  | k + 1 => match l[k]? with
    | none => k + 1
    | some y => if ltP p y then stopK l p k else k + 1
def insR (l : List Pt) (p : Pt) : List Pt := l.take (stopK l p l.length) ++ p :: l.drop (stopK l p l.length)
theorem stopK_spec (l : List Pt) (p : Pt) : ∀ n, n ≤ l.length → stopK l p n ≤ n ∧ (∀ j y, stopK l p n ≤ j → j < n → l[j]? = some y → ltP p y) ∧ (∀ k y, stopK l p n = k + 1 → l[k]? = some y → ¬ ltP p y)
  | 0, _ => ⟨Nat.le_refl _, fun j y h1 h2 => by omega, fun k y h => by cases h⟩
  | n + 1, h => by
    obtain ⟨y, hy⟩ : ∃ y, l[n]? = some y := ⟨_, List.getElem?_eq_getElem (by omega)⟩
    have hu : stopK l p (n + 1) = if ltP p y then stopK l p n else n + 1 := by rw [stopK, hy]
    obtain ⟨i1, i2, i3⟩ := stopK_spec l p n (by omega)
    by_cases c : ltP p y
    · rw [if_pos c] at hu
      rw [hu]
      refine ⟨by omega, fun j z h1 h2 hz => ?_, i3⟩
      rcases Nat.lt_or_ge j n with h3 | h3
      · exact i2 j z h1 h3 hz
      · have : j = n := by omega
        subst this
        rw [hy] at hz; cases hz; exact c
    · rw [if_neg c] at hu
      rw [hu]
      refine ⟨Nat.le_refl _, fun j z h1 h2 => by omega, fun k z hk hz => ?_⟩
      have : k = n := by omega
      subst this
      rw [hy] at hz; cases hz; exact c
theorem insR_perm (l : List Pt) (p : Pt) : (insR l p).Perm (p :: l) := by
  unfold insR
  refine List.perm_middle.trans ?_
  rw [List.take_append_drop]
theorem insR_len (l : List Pt) (p : Pt) : (insR l p).length = l.length + 1 := (insR_perm l p).length_eq
theorem insR_srt {l : List Pt} {p : Pt} (h : SrtP l) : SrtP (insR l p) := by
  obtain ⟨h1, h2, h3⟩ := stopK_spec l p l.length (Nat.le_refl _)
  unfold insR
  generalize stopK l p l.length = k at *
  unfold SrtP at *
  have hg := List.pairwise_iff_getElem.1 h
  rw [List.pairwise_append]
  refine ⟨h.sublist (List.take_sublist _ _), List.pairwise_cons.2 ⟨?_, h.sublist (List.drop_sublist _ _)⟩, ?_⟩
  · intro y hy
    obtain ⟨i, hi, rfl⟩ := List.getElem_of_mem hy
    rw [List.length_drop] at hi
    have hlt := h2 (k + i) _ (by omega) (by omega) (List.getElem?_eq_getElem (by omega))
    rw [List.getElem_drop]
    exact fun hh => ltP_irrefl _ (ltP_trans hh hlt)
  · intro x hx y hy
    obtain ⟨i, hi, rfl⟩ := List.getElem_of_mem hx
    rw [List.length_take] at hi
    rw [List.getElem_take]
    have hxp : ¬ ltP p (l[i]'(by omega)) := by
      obtain ⟨q, rfl⟩ : ∃ q, k = q + 1 := ⟨k - 1, by omega⟩
      have hq := h3 q _ rfl (List.getElem?_eq_getElem (by omega))
      rcases Nat.lt_or_ge i q with hiq | hiq
      · exact leP_trans (hg i q (by omega) (by omega) hiq) hq
      · have : i = q := by omega
        subst this; exact hq
    rcases List.mem_cons.1 hy with rfl | hy
    · exact hxp
    · obtain ⟨j, hj, rfl⟩ := List.getElem_of_mem hy
      rw [List.length_drop] at hj
      rw [List.getElem_drop]
      exact hg i (k + j) (by omega) (by omega) (by omega)
theorem insAll_perm (xs : List Pt) : ∀ l : List Pt, (xs.foldl insR l).Perm (xs ++ l) := by
  induction xs with
  | nil => intro l; exact List.Perm.refl _
  | cons x xs ih =>
    intro l
    rw [List.foldl_cons]
    refine (ih _).trans ?_
    refine (List.Perm.append_left xs (insR_perm l x)).trans ?_
    exact List.perm_middle
theorem insAll_srt (xs : List Pt) : ∀ l : List Pt, SrtP l → SrtP (xs.foldl insR l) := by
  induction xs with
  | nil => intro l h; exact h
  | cons x xs ih => intro l h; exact ih _ (insR_srt h)
/-- How many points of an entry. -/
def perN (per : Int) : Int := max 1 (min per 256)
def cntE (per gr w : Int) : Int := max 1 (per * w / gr)
def great1 (F : List Ent) : Int := F.foldl (fun a x => max a x.2) 1
theorem great_ge (F : List Ent) : ∀ a : Int, a ≤ F.foldl (fun a x => max a x.2) a ∧ ∀ x ∈ F, x.2 ≤ F.foldl (fun a x => max a x.2) a := by
  induction F with
  | nil => intro a; exact ⟨Int.le_refl _, by simp⟩
  | cons x F ih =>
    intro a
    rw [List.foldl_cons]
    obtain ⟨h1, h2⟩ := ih (max a x.2)
    refine ⟨by omega, fun y hy => ?_⟩
    rcases List.mem_cons.1 hy with rfl | hy
    · omega
    · exact h2 y hy
theorem great_le (F : List Ent) (b : Int) : ∀ a : Int, a ≤ b → (∀ x ∈ F, x.2 ≤ b) → F.foldl (fun a x => max a x.2) a ≤ b := by
  induction F with
  | nil => intro a h _; exact h
  | cons x F ih =>
    intro a h h2
    rw [List.foldl_cons]
    exact ih _ (by have := h2 x (by simp); omega) (fun y hy => h2 y (List.mem_cons_of_mem _ hy))
theorem perN_rng (per : Int) : 1 ≤ perN per ∧ perN per ≤ 256 := by unfold perN; omega
theorem cntE_rng {per gr w : Int} (h1 : 1 ≤ per) (h2 : per ≤ 256) (h3 : 1 ≤ w) (h4 : w ≤ gr) : 1 ≤ cntE per gr w ∧ cntE per gr w ≤ 256 := by
  have h5 : per * w / gr ≤ per := by
    have h6 : per * w ≤ per * gr := Int.mul_le_mul_of_nonneg_left h4 (by omega)
    have h7 := Int.ediv_le_ediv (show 0 < gr by omega) h6
    rwa [Int.mul_ediv_cancel _ (by omega)] at h7
  unfold cntE
  omega
def ptOf (K : List UInt8) (nm : List UInt8) (i : Nat) : Pt := (sumI K (nm ++ 35 :: decL i), nm)
def ptsE (K : List UInt8) (per gr : Int) (x : Ent) : List Pt := (List.range (cntE per gr x.2).toNat).map (ptOf K x.1)
def ptsAll (K : List UInt8) (per : Int) (F : List Ent) : List Pt := F.flatMap (ptsE K (perN per) (great1 F))
theorem flatMap_len {α β : Type} (f : α → List β) (n : Nat) (F : List α) (h : ∀ x ∈ F, (f x).length ≤ n) : (F.flatMap f).length ≤ F.length * n := by
  induction F with
  | nil => simp
  | cons x F ih =>
    rw [List.flatMap_cons, List.length_append, List.length_cons, Nat.add_mul]
    have := h x (by simp)
    have := ih (fun y hy => h y (List.mem_cons_of_mem _ hy))
    omega
end Go.Proofs.YtiamkhhnnlgemaaDoor.Ri
