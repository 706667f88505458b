/- The table, as a plain law: the rounds. No program. -/
import Derived.Test.YtclngmjfhlindaaMaP
namespace Go.Proofs.Ytclngmjfhlindaa.Ma
/-- The places (-1: nobody's), how far each has gone in its row, what each is owed, how many are given. -/
structure MS where
  P : List Int
  K : List Nat
  O : List Int
  G : Nat
def seek (m : Nat) (P : List Int) (r : Rw) : Nat → Nat → Nat
  | 0, k => k
  | n + 1, k => if P[pos m r k]? = some (-1) then k else seek m P r n (k + 1)
def seekK (m : Nat) (P : List Int) (r : Rw) (k : Nat) : Nat := seek m P r (m - k) k
theorem seekK_stop {m : Nat} {P : List Int} {r : Rw} {k : Nat} (hk : k < m) (h : P[pos m r k]? = some (-1)) : seekK m P r k = k := by
  unfold seekK
  obtain ⟨n, hn⟩ : ∃ n, m - k = n + 1 := ⟨m - k - 1, by omega⟩
  rw [hn, seek, if_pos h]
theorem seekK_next {m : Nat} {P : List Int} {r : Rw} {k : Nat} (hk : k < m) (h : ¬ P[pos m r k]? = some (-1)) : seekK m P r k = seekK m P r (k + 1) := by
  unfold seekK
  obtain ⟨n, hn⟩ : ∃ n, m - k = n + 1 := ⟨m - k - 1, by omega⟩
  rw [hn, seek, if_neg h, show m - (k + 1) = n by omega]
def stepM (m : Nat) (gr : Int) (i : Nat) (r : Rw) (st : MS) : MS :=
  if st.O.getD i 0 + r.w < gr ∨ st.G = m then { st with O := st.O.set i (st.O.getD i 0 + r.w) }
  else { P := st.P.set (pos m r (seekK m st.P r (st.K.getD i 0))) (i : Int), K := st.K.set i (seekK m st.P r (st.K.getD i 0)), O := st.O.set i (st.O.getD i 0 + r.w - gr), G := st.G + 1 }
/-- The rest of a round: the rows from place i on. -/
def passFrom (m : Nat) (gr : Int) : List Rw → Nat → MS → MS
  | [], _, st => st
  | r :: rs, i, st => passFrom m gr rs (i + 1) (stepM m gr i r st)
def runM (m : Nat) (gr : Int) (rs : List Rw) : Nat → MS → MS
  | 0, st => st
  | n + 1, st => if st.G < m then runM m gr rs n (passFrom m gr rs 0 st) else st
def resM (m : Nat) (gr : Int) (rs : List Rw) (st : MS) : MS := runM m gr rs (m - st.G) st
/-- What holds at place j of a round. -/
structure InvJ (m : Nat) (gr : Int) (rs : List Rw) (j : Nat) (st : MS) : Prop where
  lenP : st.P.length = m
  lenK : st.K.length = rs.length
  lenO : st.O.length = rs.length
  gle : st.G ≤ m
  cnt : st.P.countP (fun p => p != -1) = st.G
  val : ∀ p ∈ st.P, p = -1 ∨ (0 ≤ p ∧ p < rs.length)
  bef : ∀ i r, rs[i]? = some r → ∀ k, k < st.K.getD i 0 → st.P[pos m r k]? ≠ some (-1)
  kle : ∀ i, i < rs.length → st.K.getD i 0 < m
  onn : ∀ i, i < rs.length → 0 ≤ st.O.getD i 0 ∧ st.O.getD i 0 < 2 * gr
  olt : ∀ i, i < rs.length → j ≤ i → st.O.getD i 0 < gr
  old : ∀ i, i < j → st.O.getD i 0 < gr ∨ st.G = m
/-- What holds of the rows. -/
structure Rows (m : Nat) (gr : Int) (rs : List Rw) : Prop where
  prime : IsP (m : Int)
  step : ∀ r ∈ rs, 1 ≤ r.s ∧ r.s < m
  wt : ∀ r ∈ rs, 1 ≤ r.w ∧ r.w ≤ gr
  top : ∃ r ∈ rs, r.w = gr
theorem count_free {P : List Int} {m G : Nat} (hl : P.length = m) (hc : P.countP (fun p => p != -1) = G) (hG : G < m) : ∃ q, q < m ∧ P[q]? = some (-1) := by
  refine Classical.byContradiction fun hx => ?_
  have hall : ∀ p ∈ P, (p != -1) = true := by
    intro p hp
    obtain ⟨q, hq, rfl⟩ := List.getElem_of_mem hp
    have : ¬ P[q]? = some (-1) := fun e => hx ⟨q, by omega, e⟩
    rw [List.getElem?_eq_getElem hq] at this
    simpa using this
  have := List.countP_eq_length.2 hall
  omega
/-- The place that is free and lies ahead. -/
theorem ahead_free {m : Nat} {gr : Int} {rs : List Rw} {j : Nat} {st : MS} (hR : Rows m gr rs) (h : InvJ m gr rs j st) {i : Nat} {r : Rw} (hi : rs[i]? = some r) (hG : st.G < m) :
    ∃ k, k < m ∧ st.K.getD i 0 ≤ k ∧ st.P[pos m r k]? = some (-1) := by
  obtain ⟨q, hq, hf⟩ := count_free h.lenP h.cnt hG
  have hr := hR.step r (List.mem_of_getElem? hi)
  obtain ⟨k, hk, e⟩ := pos_onto hR.prime hr.1 hr.2 q hq
  refine ⟨k, hk, ?_, by rw [e]; exact hf⟩
  refine Classical.byContradiction fun hx => ?_
  exact h.bef i r hi k (by omega) (by rw [e]; exact hf)
theorem seekK_spec {m : Nat} {P : List Int} {r : Rw} : ∀ (n k : Nat), (∃ k', k' < m ∧ k ≤ k' ∧ k' < k + n ∧ P[pos m r k']? = some (-1)) →
    k ≤ seekK m P r k ∧ seekK m P r k < m ∧ P[pos m r (seekK m P r k)]? = some (-1) ∧ ∀ k', k ≤ k' → k' < seekK m P r k → P[pos m r k']? ≠ some (-1)
  | 0, k, ⟨k', h1, h2, h3, _⟩ => by omega
  | n + 1, k, ⟨k', h1, h2, h3, h4⟩ => by
    have hk : k < m := by omega
    by_cases c : P[pos m r k]? = some (-1)
    · rw [seekK_stop hk c]
      exact ⟨Nat.le_refl _, hk, c, fun k' h5 h6 => by omega⟩
    · rw [seekK_next hk c]
      have hne : k' ≠ k := fun e => c (e ▸ h4)
      obtain ⟨a1, a2, a3, a4⟩ := seekK_spec n (k + 1) ⟨k', h1, by omega, by omega, h4⟩
      refine ⟨by omega, a2, a3, fun q h5 h6 => ?_⟩
      by_cases e : q = k
      · rw [e]; exact c
      · exact a4 q (by omega) h6
theorem getD_set {α : Type} (l : List α) (i j : Nat) (a d : α) (hi : i < l.length) : (l.set i a).getD j d = if j = i then a else l.getD j d := by
  rw [List.getD_eq_getElem?_getD, List.getD_eq_getElem?_getD, List.getElem?_set]
  by_cases e : j = i
  · subst e; rw [if_pos rfl, if_pos rfl, if_pos hi]; rfl
  · rw [if_neg e, if_neg (fun h => e h.symm)]
theorem stepM_inv {m : Nat} {gr : Int} {rs : List Rw} {i : Nat} {r : Rw} {st : MS} (hR : Rows m gr rs) (h : InvJ m gr rs i st) (hi : rs[i]? = some r) : InvJ m gr rs (i + 1) (stepM m gr i r st) := by
  have hil : i < rs.length := (List.getElem?_eq_some_iff.1 hi).1
  have hw := hR.wt r (List.mem_of_getElem? hi)
  have ho := h.onn i hil
  have hol := h.olt i hil (Nat.le_refl _)
  unfold stepM
  split
  · rename_i hc
    refine ⟨h.lenP, h.lenK, by simp [h.lenO], h.gle, h.cnt, h.val, h.bef, h.kle, fun q hq => ?_, fun q hq hle => ?_, fun q hq => ?_⟩
    · show 0 ≤ (st.O.set i _).getD q 0 ∧ _
      rw [getD_set _ _ _ _ _ (by rw [h.lenO]; exact hil)]
      split
      · omega
      · exact h.onn q hq
    · show (st.O.set i _).getD q 0 < gr
      rw [getD_set _ _ _ _ _ (by rw [h.lenO]; exact hil), if_neg (by omega)]
      exact h.olt q hq (by omega)
    · show (st.O.set i _).getD q 0 < gr ∨ _
      rw [getD_set _ _ _ _ _ (by rw [h.lenO]; exact hil)]
      split
      · exact hc
      · exact h.old q (by omega)
  · rename_i hc
    have hc1 : gr ≤ st.O.getD i 0 + r.w := by omega
    have hc2 : st.G < m := by have := h.gle; omega
    obtain ⟨k0, hk0, hle, hfree⟩ := ahead_free hR h hi hc2
    obtain ⟨a1, a2, a3, a4⟩ := seekK_spec (m - st.K.getD i 0) (st.K.getD i 0) ⟨k0, hk0, hle, by omega, hfree⟩
    have hpm : pos m r (seekK m st.P r (st.K.getD i 0)) < m := Nat.mod_lt _ (by omega)
    generalize seekK m st.P r (st.K.getD i 0) = k at *
    have hpl : pos m r k < st.P.length := by rw [h.lenP]; exact hpm
    have hi1 : (i : Int) ≠ -1 := by omega
    refine ⟨by simp [h.lenP], by simp [h.lenK], by simp [h.lenO], by show st.G + 1 ≤ m; omega, ?_, ?_, ?_, ?_, fun q hq => ?_, fun q hq hle => ?_, fun q hq => ?_⟩
    · show (st.P.set _ _).countP _ = st.G + 1
      rw [List.countP_set hpl]
      have e1 : st.P[pos m r k] = -1 := by rw [List.getElem?_eq_getElem hpl] at a3; exact Option.some.inj a3
      rw [e1, h.cnt]
      simp [hi1]
    · intro p hp
      rcases List.mem_or_eq_of_mem_set hp with h1 | h1
      · exact h.val p h1
      · right; rw [h1]; omega
    · intro q r' hq k' hk'
      show (st.P.set _ _)[_]? ≠ _
      rw [List.getElem?_set]
      split
      · intro e; exact hi1 (Option.some.inj e)
      · have hk'' : k' < (st.K.set i k).getD q 0 := hk'
        rw [getD_set _ _ _ _ _ (by rw [h.lenK]; exact hil)] at hk''
        split at hk''
        · rename_i hqi
          subst hqi
          rw [hi] at hq
          cases hq
          by_cases hlt : k' < st.K.getD q 0
          · exact h.bef q r hi k' hlt
          · exact a4 k' (by omega) hk''
        · exact h.bef q r' hq k' hk''
    · intro q hq
      show (st.K.set i k).getD q 0 < m
      rw [getD_set _ _ _ _ _ (by rw [h.lenK]; exact hil)]
      split
      · exact a2
      · exact h.kle q hq
    · show 0 ≤ (st.O.set i _).getD q 0 ∧ (st.O.set i _).getD q 0 < 2 * gr
      rw [getD_set _ _ _ _ _ (by rw [h.lenO]; exact hil)]
      split
      · omega
      · exact h.onn q hq
    · show (st.O.set i _).getD q 0 < gr
      rw [getD_set _ _ _ _ _ (by rw [h.lenO]; exact hil), if_neg (by omega)]
      exact h.olt q hq (by omega)
    · show (st.O.set i _).getD q 0 < gr ∨ _
      rw [getD_set _ _ _ _ _ (by rw [h.lenO]; exact hil)]
      split
      · left; omega
      · rcases h.old q (by omega) with h1 | h1
        · exact .inl h1
        · omega
theorem stepM_G {m : Nat} {gr : Int} {i : Nat} {r : Rw} {st : MS} : st.G ≤ (stepM m gr i r st).G := by
  unfold stepM
  split
  · exact Nat.le_refl _
  · exact Nat.le_succ _
theorem passFrom_inv {m : Nat} {gr : Int} {rs : List Rw} (hR : Rows m gr rs) : ∀ (l : List Rw) (i : Nat) (st : MS), rs.drop i = l → InvJ m gr rs i st → InvJ m gr rs rs.length (passFrom m gr l i st) ∧ st.G ≤ (passFrom m gr l i st).G
  | [], i, st, hd, h => by
    have hle : rs.length ≤ i := by
      have := congrArg List.length hd
      simp at this; omega
    refine ⟨⟨h.lenP, h.lenK, h.lenO, h.gle, h.cnt, h.val, h.bef, h.kle, h.onn, fun q hq hle => by omega, fun q hq => h.old q (by omega)⟩, Nat.le_refl _⟩
  | r :: l, i, st, hd, h => by
    have hi : rs[i]? = some r := by
      have := congrArg (fun l => l[0]?) hd
      simpa using this
    have hd' : rs.drop (i + 1) = l := by
      rw [← List.tail_drop, hd]; rfl
    obtain ⟨h1, h2⟩ := passFrom_inv hR l (i + 1) (stepM m gr i r st) hd' (stepM_inv hR h hi)
    exact ⟨h1, Nat.le_trans stepM_G h2⟩
theorem InvJ.start {m : Nat} {gr : Int} {rs : List Rw} {st : MS} (h : InvJ m gr rs rs.length st) (hG : st.G < m) : InvJ m gr rs 0 st :=
  ⟨h.lenP, h.lenK, h.lenO, h.gle, h.cnt, h.val, h.bef, h.kle, h.onn, fun q hq _ => by rcases h.old q hq with h1 | h1; exact h1; omega, fun q hq => by omega⟩
theorem passFrom_top {m : Nat} {gr : Int} {rs : List Rw} (hR : Rows m gr rs) : ∀ (l : List Rw) (i : Nat) (st : MS), rs.drop i = l → InvJ m gr rs i st → st.G < m → (∃ r ∈ l, r.w = gr) → st.G < (passFrom m gr l i st).G
  | [], _, _, _, _, _, ⟨r, hr, _⟩ => by cases hr
  | r :: l, i, st, hd, h, hG, ⟨r', hr', hw'⟩ => by
    have hi : rs[i]? = some r := by
      have := congrArg (fun l => l[0]?) hd
      simpa using this
    have hd' : rs.drop (i + 1) = l := by
      rw [← List.tail_drop, hd]; rfl
    have hil : i < rs.length := (List.getElem?_eq_some_iff.1 hi).1
    have h1 := stepM_inv hR h hi
    have h2 := (passFrom_inv hR l (i + 1) _ hd' h1).2
    by_cases hc : st.O.getD i 0 + r.w < gr ∨ st.G = m
    · have hs : (stepM m gr i r st).G = st.G := by unfold stepM; rw [if_pos hc]
      rcases List.mem_cons.1 hr' with e | hm
      · subst e
        have := h.onn i hil
        omega
      · have := passFrom_top hR l (i + 1) (stepM m gr i r st) hd' h1 (by omega) ⟨r', hm, hw'⟩
        show st.G < (passFrom m gr l (i + 1) (stepM m gr i r st)).G
        omega
    · have hs : (stepM m gr i r st).G = st.G + 1 := by unfold stepM; rw [if_neg hc]
      show st.G < (passFrom m gr l (i + 1) (stepM m gr i r st)).G
      omega
theorem pass_G {m : Nat} {gr : Int} {rs : List Rw} {st : MS} (hR : Rows m gr rs) (h : InvJ m gr rs 0 st) (hG : st.G < m) : st.G < (passFrom m gr rs 0 st).G :=
  passFrom_top hR rs 0 st rfl h hG hR.top
theorem runM_enough {m : Nat} {gr : Int} {rs : List Rw} (hR : Rows m gr rs) : ∀ (n a b : Nat) (st : MS), m - st.G ≤ n → n ≤ a → n ≤ b → InvJ m gr rs 0 st ∨ st.G = m → runM m gr rs a st = runM m gr rs b st
  | n, 0, 0, st, _, _, _, _ => rfl
  | n, 0, b + 1, st, h1, h2, _, h => by
    rw [runM, runM, if_neg (by omega)]
  | n, a + 1, 0, st, h1, _, h3, h => by
    rw [runM, runM, if_neg (by omega)]
  | n, a + 1, b + 1, st, h1, h2, h3, h => by
    rw [runM, runM]
    split
    · rename_i hG
      rcases h with h | h
      · have hp := pass_G hR h hG
        have hi := (passFrom_inv hR rs 0 st rfl h).1
        have := hi.gle
        refine runM_enough hR (n - 1) a b _ (by omega) (by omega) (by omega) ?_
        by_cases hm : (passFrom m gr rs 0 st).G < m
        · exact .inl (hi.start hm)
        · exact .inr (by omega)
      · omega
    · rfl
theorem resM_pass {m : Nat} {gr : Int} {rs : List Rw} {st : MS} (hR : Rows m gr rs) (h : InvJ m gr rs 0 st) (hG : st.G < m) : resM m gr rs st = resM m gr rs (passFrom m gr rs 0 st) := by
  have hp := pass_G hR h hG
  have hi := (passFrom_inv hR rs 0 st rfl h).1
  have := hi.gle
  unfold resM
  obtain ⟨n, hn⟩ : ∃ n, m - st.G = n + 1 := ⟨m - st.G - 1, by omega⟩
  rw [hn, runM, if_pos hG]
  refine runM_enough hR (m - (passFrom m gr rs 0 st).G) _ _ _ (Nat.le_refl _) (by omega) (Nat.le_refl _) ?_
  by_cases hm : (passFrom m gr rs 0 st).G < m
  · exact .inl (hi.start hm)
  · exact .inr (by omega)
theorem resM_end {m : Nat} {gr : Int} {rs : List Rw} {st : MS} (hG : st.G = m) : resM m gr rs st = st := by
  unfold resM; rw [hG, Nat.sub_self]; rfl
/-- Where it begins. -/
def ms0 (m n : Nat) : MS := { P := List.replicate m (-1), K := List.replicate n 0, O := List.replicate n 0, G := 0 }
theorem getD_rep {α : Type} (n i : Nat) (a : α) : (List.replicate n a).getD i a = a := by
  rw [List.getD_eq_getElem?_getD, List.getElem?_replicate]
  split <;> rfl
theorem ms0_inv {m : Nat} {gr : Int} {rs : List Rw} (hR : Rows m gr rs) : InvJ m gr rs 0 (ms0 m rs.length) := by
  have hg : 1 ≤ gr := by obtain ⟨r, hr, e⟩ := hR.top; have := hR.wt r hr; omega
  have hm := hR.prime.1
  refine ⟨by simp [ms0], by simp [ms0], by simp [ms0], Nat.zero_le _, ?_, ?_, ?_, ?_, ?_, ?_, ?_⟩
  · show (List.replicate m (-1 : Int)).countP _ = 0
    rw [List.countP_replicate]; rfl
  · intro p hp; left; exact (List.mem_replicate.1 hp).2
  · intro i r hi k hk
    have : k < (List.replicate rs.length 0).getD i 0 := hk
    rw [getD_rep] at this; omega
  · intro i hi; show (List.replicate rs.length 0).getD i 0 < m; rw [getD_rep]; omega
  · intro i hi; show 0 ≤ (List.replicate rs.length (0 : Int)).getD i 0 ∧ (List.replicate rs.length (0 : Int)).getD i 0 < 2 * gr; rw [getD_rep]; omega
  · intro i hi _; show (List.replicate rs.length (0 : Int)).getD i 0 < gr; rw [getD_rep]; omega
  · intro i hi; omega
end Go.Proofs.Ytclngmjfhlindaa.Ma
