/- Plain facts: the document's walk over places; how many places each has. -/
import Derived.Test.YtclngmjfhlindaaMaV
namespace Go.Proofs.Ytclngmjfhlindaa.Ma
open Go.RowKit Go.Proofs.Ytclngmjfhlindaa.Sip
set_option linter.unusedVariables false
/-- What the document's Walk answers of these, one after the other. -/
def walkR (names : List (List UInt8)) (out : List (List UInt8)) : List (List UInt8) → List (List UInt8)
  | [] => out
  | n :: l => if n ∈ names ∧ n ∉ out then walkR names (out ++ [n]) l else walkR names out l
theorem walkR_app (names : List (List UInt8)) (l1 l2 : List (List UInt8)) : ∀ out, walkR names out (l1 ++ l2) = walkR names (walkR names out l1) l2 := by
  induction l1 with
  | nil => intro out; rfl
  | cons p l ih =>
    intro out
    rw [List.cons_append, walkR, walkR]
    split
    · exact ih _
    · exact ih _
theorem walkR_snoc (names : List (List UInt8)) (l : List (List UInt8)) (n : List UInt8) (out : List (List UInt8)) : walkR names out (l ++ [n]) = if n ∈ names ∧ n ∉ walkR names out l then walkR names out l ++ [n] else walkR names out l := by
  rw [walkR_app]; rfl
theorem walkR_mem (names : List (List UInt8)) (l : List (List UInt8)) : ∀ out, (∀ x ∈ out, x ∈ names) → out.Nodup → (∀ x ∈ walkR names out l, x ∈ names) ∧ (walkR names out l).Nodup := by
  induction l with
  | nil => intro out h1 h2; exact ⟨h1, h2⟩
  | cons p l ih =>
    intro out h1 h2
    rw [walkR]
    split
    · rename_i hc
      refine ih _ ?_ ?_
      · intro x hx
        rcases List.mem_append.1 hx with h | h
        · exact h1 x h
        · rw [List.mem_singleton.1 h]; exact hc.1
      · rw [List.nodup_append]
        refine ⟨h2, by simp, ?_⟩
        intro a ha b hb e
        rw [List.mem_singleton] at hb
        subst hb; subst e
        exact hc.2 ha
    · exact ih _ h1 h2
theorem nm_mem {names : List (List UInt8)} {q : Nat} (h : q < names.length) : nm names q ∈ names := by
  unfold nm
  rw [List.getD_eq_getElem?_getD, List.getElem?_eq_getElem h]
  exact List.getElem_mem h
theorem nm_inj {names : List (List UInt8)} (hn : names.Nodup) {a b : Nat} (ha : a < names.length) (hb : b < names.length) (h : nm names a = nm names b) : a = b := by
  unfold nm at h
  rw [List.getD_eq_getElem?_getD, List.getElem?_eq_getElem ha, List.getD_eq_getElem?_getD, List.getElem?_eq_getElem hb] at h
  rcases Nat.lt_trichotomy a b with h1 | h1 | h1
  · exact absurd h (List.pairwise_iff_getElem.1 hn a b ha hb h1)
  · exact h1
  · exact absurd h.symm (List.pairwise_iff_getElem.1 hn b a hb ha h1)
theorem walkR_eq {names : List (List UInt8)} (hn : names.Nodup) (he : [] ∉ names) : ∀ (l : List Int) (out : List Nat), (∀ p ∈ l, p = -1 ∨ (0 ≤ p ∧ p < names.length)) → (∀ q ∈ out, q < names.length) → walkR names (out.map (nm names)) (l.map (nameAt names)) = (firsts out l).map (nm names)
  | [], out, _, _ => rfl
  | p :: l, out, h1, h2 => by
    rw [List.map_cons, walkR, firsts]
    have hl := fun q hq => h1 q (List.mem_cons_of_mem p hq)
    by_cases hp : p = -1
    · rw [if_pos (Or.inl hp), if_neg]
      · exact walkR_eq hn he l out hl h2
      · unfold nameAt; rw [if_pos hp]; exact fun h => he h.1
    · have hq : p.toNat < names.length := by have := h1 p (by simp); omega
      have hna : nameAt names p = nm names p.toNat := by unfold nameAt nm; rw [if_neg hp]
      rw [hna]
      have hiff : nm names p.toNat ∈ out.map (nm names) ↔ p.toNat ∈ out := by
        rw [List.mem_map]
        constructor
        · rintro ⟨a, ha, e⟩
          rw [← nm_inj hn (h2 a ha) hq e]; exact ha
        · exact fun h => ⟨_, h, rfl⟩
      by_cases hm : p.toNat ∈ out
      · rw [if_pos (Or.inr hm), if_neg (fun h => h.2 (hiff.2 hm))]
        exact walkR_eq hn he l out hl h2
      · rw [if_neg (fun h => Or.elim h hp hm), if_pos ⟨nm_mem hq, fun h => hm (hiff.1 h)⟩]
        have := walkR_eq hn he l (out ++ [p.toNat]) hl (fun q hq' => by
          rcases List.mem_append.1 hq' with h | h
          · exact h2 q h
          · rw [List.mem_singleton.1 h]; exact hq)
        rw [List.map_append] at this
        exact this
/-- The places from one on, round. -/
def roundL {α : Type} (l : List α) (a : Nat) : List α := l.drop a ++ l.take a
theorem round_len {α : Type} (l : List α) (a : Nat) (h : a ≤ l.length) : (roundL l a).length = l.length := by
  unfold roundL; rw [List.length_append, List.length_drop, List.length_take]; omega
theorem round_get {α : Type} (l : List α) (a i : Nat) (h : a < l.length) (hi : i < l.length) : (roundL l a)[i]? = l[(a + i) % l.length]? := by
  unfold roundL
  by_cases c : i < l.length - a
  · rw [List.getElem?_append_left (by rw [List.length_drop]; omega), List.getElem?_drop, Nat.mod_eq_of_lt (by omega)]
  · rw [List.getElem?_append_right (by rw [List.length_drop]; omega), List.length_drop, List.getElem?_take, if_pos (by omega)]
    congr 1
    rw [show a + i = (i - (l.length - a)) + l.length by omega, Nat.add_mod_right, Nat.mod_eq_of_lt (by omega)]
theorem round_map {α β : Type} (f : α → β) (l : List α) (a : Nat) : roundL (l.map f) a = (roundL l a).map f := by
  unfold roundL; rw [List.map_append, List.map_drop, List.map_take]
theorem walk_same {names : List (List UInt8)} (hn : names.Nodup) (he : [] ∉ names) {P : List Int} (hv : Vals names P) (a : Nat) : walkS names P a = walkR names [] (roundL (P.map (nameAt names)) a) := by
  rw [round_map]
  have := walkR_eq hn he (roundL P a) [] (fun p hp => hv p (by
    unfold roundL at hp
    rcases List.mem_append.1 hp with h | h
    · exact List.mem_of_mem_drop h
    · exact List.mem_of_mem_take h)) (by simp)
  exact this.symm
/-- As many places of a name as of its number. -/
theorem count_same {names : List (List UInt8)} (hn : names.Nodup) (he : [] ∉ names) {P : List Int} (hv : Vals names P) (i : Nat) (hi : i < names.length) : (P.map (nameAt names)).countP (fun n => decide (n = names[i])) = P.countP (fun p : Int => p == (i : Int)) := by
  rw [List.countP_map]
  refine List.countP_congr (fun p hp => ?_)
  have h := hv p hp
  show decide (nameAt names p = names[i]) = true ↔ (p == (i : Int)) = true
  rw [decide_eq_true_iff, beq_iff_eq]
  have hni : nm names i = names[i] := by unfold nm; rw [List.getD_eq_getElem?_getD, List.getElem?_eq_getElem hi]; rfl
  constructor
  · intro e
    rcases h with h | h
    · exfalso
      apply he
      rw [show ([] : List UInt8) = names[i] by rw [← e]; unfold nameAt; rw [if_pos h]]
      exact List.getElem_mem hi
    · have : nm names p.toNat = nm names i := by
        rw [hni, ← e]; unfold nameAt nm; rw [if_neg (by omega)]
      have := nm_inj hn (by omega) hi this
      omega
  · intro e
    rw [e]
    unfold nameAt
    rw [if_neg (by omega), Int.toNat_natCast, List.getD_eq_getElem?_getD, List.getElem?_eq_getElem hi]; rfl
theorem srt_nodup {ys : List Ent} (h : (ys.map Prod.fst).Nodup) : (ys.map Prod.fst).Nodup := h
end Go.Proofs.Ytclngmjfhlindaa.Ma
