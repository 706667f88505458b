/- Equal weights: all places are given, shares are at most one apart. No program. -/
import Derived.Test.YtclngmjfhlindaaMaM
namespace Go.Proofs.Ytclngmjfhlindaa.Ma
set_option linter.unusedVariables false
def cnt (i : Nat) (P : List Int) : Nat := P.countP (fun p : Int => p == (i : Int))
def Bal (n : Nat) (P : List Int) : Prop := ∃ t, ∀ i, i < n → cnt i P = t ∨ cnt i P = t + 1
structure SI (m n t j : Nat) (st : MS) : Prop where
  zero : st.G < m → ∀ i, i < n → st.O.getD i 0 = 0
  low : st.G < m → ∀ i, i < j → i < n → cnt i st.P = t + 1
  high : st.G < m → ∀ i, j ≤ i → i < n → cnt i st.P = t
  bal : Bal n st.P
theorem step_S {m : Nat} {gr : Int} {rs : List Rw} {i t : Nat} {r : Rw} {st : MS} (hR : Rows m gr rs) (heq : ∀ r ∈ rs, r.w = gr) (h : InvJ m gr rs i st) (hi : rs[i]? = some r) (hs : SI m rs.length t i st) : SI m rs.length t (i + 1) (stepM m gr i r st) := by
  have hil : i < rs.length := (List.getElem?_eq_some_iff.1 hi).1
  have hw := heq r (List.mem_of_getElem? hi)
  unfold stepM
  split
  · rename_i hc
    have hGm : ¬ st.G < m := by
      intro hlt
      have := hs.zero hlt i hil
      omega
    exact ⟨fun h => absurd h hGm, fun h => absurd h hGm, fun h => absurd h hGm, hs.bal⟩
  · rename_i hc
    have hG : st.G < m := by have := h.gle; omega
    obtain ⟨k0, hk0, hle, hfree⟩ := ahead_free hR h hi hG
    obtain ⟨a1, a2, a3, a4⟩ := seekK_spec (m - st.K.getD i 0) (st.K.getD i 0) ⟨k0, hk0, hle, by omega, hfree⟩
    have hpm : pos m r (seekK m st.P r (st.K.getD i 0)) < m := Nat.mod_lt _ (by omega)
    generalize seekK m st.P r (st.K.getD i 0) = k at *
    have hpl : pos m r k < st.P.length := by rw [h.lenP]; exact hpm
    have e1 : st.P[pos m r k] = -1 := by rw [List.getElem?_eq_getElem hpl] at a3; exact Option.some.inj a3
    have hcs : ∀ q, cnt q (st.P.set (pos m r k) (i : Int)) = if q = i then cnt q st.P + 1 else cnt q st.P := by
      intro q
      unfold cnt
      rw [List.countP_set hpl, e1]
      have h1 : ((-1 : Int) == (q : Int)) = false := by rw [beq_eq_false_iff_ne]; omega
      rw [h1]
      by_cases e : q = i
      · subst e; simp
      · have h2 : ((i : Int) == (q : Int)) = false := by rw [beq_eq_false_iff_ne]; omega
        rw [h2, if_neg e]; simp
    have hz := hs.zero hG
    have hO : ∀ q, q < rs.length → (st.O.set i (st.O.getD i 0 + r.w - gr)).getD q 0 = 0 := by
      intro q hq
      rw [getD_set _ _ _ _ _ (by rw [h.lenO]; exact hil)]
      split
      · rw [hz i hil, hw]; omega
      · exact hz q hq
    have hlow : ∀ q, q < i + 1 → q < rs.length → cnt q (st.P.set (pos m r k) (i : Int)) = t + 1 := by
      intro q hq hqn
      rw [hcs]
      split
      · rename_i e; rw [hs.high hG q (by omega) hqn]
      · exact hs.low hG q (by omega) hqn
    have hhigh : ∀ q, i + 1 ≤ q → q < rs.length → cnt q (st.P.set (pos m r k) (i : Int)) = t := by
      intro q hq hqn
      rw [hcs, if_neg (by omega)]
      exact hs.high hG q (by omega) hqn
    refine ⟨fun _ => hO, fun _ => hlow, fun _ => hhigh, t, fun q hq => ?_⟩
    rcases Nat.lt_or_ge q (i + 1) with h1 | h1
    · exact .inr (hlow q h1 hq)
    · exact .inl (hhigh q h1 hq)
theorem pass_S {m : Nat} {gr : Int} {rs : List Rw} {t : Nat} (hR : Rows m gr rs) (heq : ∀ r ∈ rs, r.w = gr) : ∀ (l : List Rw) (i : Nat) (st : MS), rs.drop i = l → InvJ m gr rs i st → SI m rs.length t i st → SI m rs.length t (i + l.length) (passFrom m gr l i st)
  | [], i, st, _, _, hs => hs
  | r :: l, i, st, hd, h, hs => by
    have hi : rs[i]? = some r := by
      have := congrArg (fun l => l[0]?) hd
      simpa using this
    have hd' : rs.drop (i + 1) = l := by
      rw [← List.tail_drop, hd]; rfl
    have := pass_S hR heq l (i + 1) (stepM m gr i r st) hd' (stepM_inv hR h hi) (step_S hR heq h hi hs)
    rw [List.length_cons, show i + (l.length + 1) = i + 1 + l.length by omega]
    exact this
theorem run_S {m : Nat} {gr : Int} {rs : List Rw} (hR : Rows m gr rs) (heq : ∀ r ∈ rs, r.w = gr) : ∀ (n t : Nat) (st : MS), (st.G < m → InvJ m gr rs 0 st) → SI m rs.length t 0 st → Bal rs.length (runM m gr rs n st).P
  | 0, t, st, _, hs => hs.bal
  | n + 1, t, st, h, hs => by
    rw [runM]
    split
    · rename_i hG
      have h0 := h hG
      have h1 := pass_S hR heq rs 0 st rfl h0 hs
      have hi := (passFrom_inv hR rs 0 st rfl h0).1
      rw [Nat.zero_add] at h1
      refine run_S hR heq n (t + 1) _ (fun hG' => hi.start hG') ⟨h1.zero, fun _ q hq => by omega, fun hG' q _ hq => h1.low hG' q hq hq, h1.bal⟩
    · exact hs.bal
theorem cnt_ms0 (m i : Nat) : cnt i (List.replicate m (-1)) = 0 := by
  unfold cnt
  rw [List.countP_replicate]
  have h1 : ((-1 : Int) == (i : Int)) = false := by rw [beq_eq_false_iff_ne]; omega
  rw [h1]; simp
theorem plc_bal {K : List UInt8} {ys : List Ent} {m : Nat} (hok : OkM ys (m : Int)) (hy : ys ≠ []) (c : Int) (heq : ∀ x ∈ ys, x.2 = c) : Bal ys.length (plc K ys m) := by
  obtain ⟨st, h1, h2, h3, h4⟩ := plc_fin (K := K) hok hy
  have hR := rows_of (K := K) hok hy
  have hgr := (greatest_rng ys hok.2.2.2.1).2.2.2 hy
  have hw : ∀ r ∈ ys.map (rwOf K m), r.w = greatest ys := by
    intro r hr
    obtain ⟨x, hx, rfl⟩ := List.mem_map.1 hr
    obtain ⟨y, hy', e⟩ := hgr
    show x.2 = _
    rw [← e, heq x hx, heq y hy']
  have hI := ms0_inv hR
  rw [List.length_map] at hI
  rw [h1, h4]
  have h := run_S hR hw m 0 (ms0 m ys.length) (fun _ => hI) ⟨fun _ i _ => getD_rep _ _ _, fun _ q hq => by omega, fun _ q _ _ => cnt_ms0 m q, 0, fun q _ => .inl (cnt_ms0 m q)⟩
  rw [List.length_map] at h
  exact h
/-- All places: the sum of the shares. -/
theorem sum_cnt (n : Nat) (P : List Int) (h : ∀ p ∈ P, 0 ≤ p ∧ p < n) : ((List.range n).map (fun i => cnt i P)).sum = P.length := by
  induction P with
  | nil =>
    have : (List.range n).map (fun i => cnt i []) = List.replicate n 0 := by
      rw [show (fun i => cnt i []) = fun _ => 0 from rfl, List.map_const', List.length_range]
    rw [this]; simp
  | cons p l ih =>
    have hp := h p (by simp)
    obtain ⟨q, rfl⟩ := Int.eq_ofNat_of_zero_le hp.1
    have hq : q < n := by omega
    have ih' := ih (fun x hx => h x (List.mem_cons_of_mem _ hx))
    rw [List.length_cons, ← ih']
    have e : ∀ i, cnt i ((q : Int) :: l) = cnt i l + if i = q then 1 else 0 := by
      intro i
      unfold cnt
      rw [List.countP_cons]
      by_cases e : i = q
      · subst e; simp
      · have : ((q : Int) == (i : Int)) = false := by rw [beq_eq_false_iff_ne]; omega
        rw [this, if_neg e]; simp
    rw [show (fun i => cnt i ((q : Int) :: l)) = fun i => cnt i l + if i = q then 1 else 0 from funext e]
    clear e ih ih' hp h
    induction n with
    | zero => omega
    | succ n ihn =>
      rw [List.range_succ, List.map_append, List.map_append, List.sum_append, List.sum_append]
      simp only [List.map_cons, List.map_nil, List.sum_cons, List.sum_nil, Nat.add_zero]
      by_cases e : n = q
      · subst e
        have : (List.range n).map (fun i => cnt i l + if i = n then 1 else 0) = (List.range n).map (fun i => cnt i l) := by
          refine List.map_congr_left (fun i hi => ?_)
          have := List.mem_range.1 hi
          rw [if_neg (by omega)]; rfl
        rw [this, if_pos rfl]; omega
      · rw [if_neg e, ihn (by omega)]; omega
end Go.Proofs.Ytclngmjfhlindaa.Ma
