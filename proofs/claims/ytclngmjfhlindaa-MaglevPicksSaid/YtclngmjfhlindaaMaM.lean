/- Plain facts of the table; Same; the fixed fact (printed by genM.py). -/
import Derived.Test.YtclngmjfhlindaaMaL
namespace Go.Proofs.Ytclngmjfhlindaa.Ma
open Go.RowKit Go.Proofs.Ytclngmjfhlindaa.Sip
set_option linter.unusedVariables false
theorem ret_bool {b c : Bool} (h : b = c) : Ending.returned (.bool b) = Ending.returned (.bool c) := by rw [h]
theorem same_any (xs ys : List (List UInt8)) (va vb : Value) (w : World) (ha : Strs w va xs) (hb : Strs w vb ys) (hN : xs.length ≤ 140737488355328) :
    Calls Try.prog 17 #[va, vb] w fun e w' => e = .returned (.bool (decide (xs = ys))) ∧ Below w.heap.size w w' := by
  go_enter Try.func17, Try.ntmps17
  obtain ⟨A, ca, rfl, hca, hra⟩ := ha
  obtain ⟨B, cb, rfl, hcb, hrb⟩ := hb
  by_cases hl : xs.length = ys.length
  · by_cases hp : 0 < xs.length
    · obtain ⟨ba, oa, rfl, hla, hxa⟩ := hra hp
      obtain ⟨bb, ob, rfl, hlb, hxb⟩ := hrb (by omega)
      go_wp2_with fail
      go_loopw [13] (fun i wr => ∃ k : Nat, k ≤ xs.length ∧ i = .int .i64 k ∧ Hid (xs.take k = ys.take k) ∧ Below w.heap.size w wr) (fun i _ => xs.length - (intOf i).toNat)
      case atStart => exact ⟨0, Nat.zero_le _, rfl, Lib.hid rfl, Below.refl _ _⟩
      case round =>
        obtain ⟨k, hk, rfl, hall, hbw⟩ := hrel
        by_cases hlt : k < xs.length
        · have hlt2 : k < ys.length := by omega
          have hx := (hbw.cell (p := ⟨ba, oa + k, none⟩) hla).trans (hxa k xs[k] (by simp [hlt]))
          have hy := (hbw.cell (p := ⟨bb, ob + k, none⟩) hlb).trans (hxb k (ys[k]'(by omega)) (by simp))
          by_cases hxy : xs[k] = ys[k]'(by omega)
          · have htest : (!(mk xs[k]).toList == (mk (ys[k]'(by omega))).toList) = false := by rw [mk_eq, decide_eq_true hxy]; rfl
            have hnx := Lib.hid (show xs.take (k + 1) = ys.take (k + 1) by rw [List.take_succ_eq_append_getElem hlt, List.take_succ_eq_append_getElem hlt2, hall.out, hxy])
            clear hxy
            go_wp2_with fail
            go_quiet (fail)
            go_wp2_with fail
            go_roundw
            case rel => exact ⟨k + 1, by omega, by go_num, hnx, below_drewN hbw _⟩
            case measure => simp [intOf]; omega
          · have htest : (!(mk xs[k]).toList == (mk (ys[k]'(by omega))).toList) = true := by rw [mk_eq, decide_eq_false hxy]; rfl
            have hne := Lib.hid hxy
            clear hxy
            go_wp2_with fail
            go_quiet (fail)
            go_wp2_with fail
            go_ret
            exact ⟨ret_bool (by rw [decide_eq_false]; intro h; subst h; exact hne.out rfl), below_drewN hbw _⟩
        · go_wp2_with fail
          go_ret
          exact ⟨ret_bool (by rw [decide_eq_true]; have h := hall.out; rwa [List.take_of_length_le (by omega), List.take_of_length_le (by omega)] at h), hbw⟩
    · have hx : xs = [] := List.length_eq_zero_iff.1 (by omega)
      subst hx
      have hy : ys = [] := List.length_eq_zero_iff.1 hl.symm
      subst hy
      go_wp2_with fail
      go_loopw [13] (fun i wr => i = .int .i64 0 ∧ wr = w) (fun _ _ => 0)
      case atStart => exact ⟨rfl, rfl⟩
      case round =>
        obtain ⟨rfl, rfl⟩ := hrel
        go_wp2_with fail
        go_ret
        exact ⟨rfl, Below.refl _ _⟩
  · have hl' : ((xs.length : Int) == (ys.length : Int)) = false := by simp; omega
    have hl2 : ((xs.length : Int) != (ys.length : Int)) = true := by simp; omega
    go_wp2_with fail
    go_ret
    exact ⟨ret_bool (by rw [decide_eq_false]; intro h; exact hl (by rw [h])), Below.refl _ _⟩

theorem runM_fin {m : Nat} {gr : Int} {rs : List Rw} (hR : Rows m gr rs) : ∀ (n : Nat) (st : MS), m - st.G ≤ n → ((InvJ m gr rs 0 st ∧ st.G < m) ∨ (st.G = m ∧ InvJ m gr rs rs.length st)) → (runM m gr rs n st).G = m ∧ InvJ m gr rs rs.length (runM m gr rs n st)
  | 0, st, h1, h => by
    rcases h with h | h
    · omega
    · exact h
  | n + 1, st, h1, h => by
    rw [runM]
    split
    · rename_i hG
      rcases h with ⟨h, _⟩ | ⟨h, _⟩
      · have hp := pass_G hR h hG
        have hi := (passFrom_inv hR rs 0 st rfl h).1
        have := hi.gle
        refine runM_fin hR n _ (by omega) ?_
        by_cases hm : (passFrom m gr rs 0 st).G < m
        · exact .inl ⟨hi.start hm, hm⟩
        · exact .inr ⟨by omega, hi⟩
      · omega
    · rcases h with ⟨_, h⟩ | h
      · omega
      · exact h
theorem rows_of {K : List UInt8} {ys : List Ent} {m : Nat} (hok : OkM ys (m : Int)) (hy : ys ≠ []) : Rows m (greatest ys) (ys.map (rwOf K m)) := by
  have hgrr := greatest_rng ys hok.2.2.2.1
  have h2 := hok.1.1
  have h3 := hok.1.2.1
  refine ⟨hok.1, ?_, ?_, ?_⟩
  · intro r hr
    obtain ⟨x, hx, rfl⟩ := List.mem_map.1 hr
    obtain ⟨_, _, p1, p2, _, _, _, _, _, _, _, hq2, _, hG⟩ := nums K x.1 m (by omega) (by omega)
    show 1 ≤ (stpI K x.1 m).toNat ∧ (stpI K x.1 m).toNat < m
    rw [hG.out]; omega
  · intro r hr
    obtain ⟨x, hx, rfl⟩ := List.mem_map.1 hr
    exact ⟨(hok.2.2.2.1 x hx).1, hgrr.2.2.1 x hx⟩
  · obtain ⟨x, hx, e⟩ := hgrr.2.2.2 hy
    exact ⟨_, List.mem_map_of_mem hx, e⟩
/-- The table is full, of indices, where there are entries. -/
theorem plc_fin {K : List UInt8} {ys : List Ent} {m : Nat} (hok : OkM ys (m : Int)) (hy : ys ≠ []) : ∃ st, plc K ys m = st.P ∧ st.G = m ∧ InvJ m (greatest ys) (ys.map (rwOf K m)) ys.length st ∧ st = runM m (greatest ys) (ys.map (rwOf K m)) m (ms0 m ys.length) := by
  have hR := rows_of (K := K) hok hy
  have h2 := hok.1.1
  have hI := ms0_inv hR
  rw [List.length_map] at hI
  have hf := runM_fin hR m (ms0 m ys.length) (by show m - 0 ≤ m; omega) (.inl ⟨hI, by show 0 < m; omega⟩)
  rw [List.length_map] at hf
  refine ⟨_, ?_, hf.1, hf.2, rfl⟩
  unfold plc
  rw [if_neg hy]
  rfl
theorem plc_len {K : List UInt8} {ys : List Ent} {m : Nat} (hok : OkM ys (m : Int)) : (plc K ys m).length = m := by
  by_cases hy : ys = []
  · unfold plc; rw [if_pos hy, List.length_replicate]
  · obtain ⟨st, h1, _, h3, _⟩ := plc_fin (K := K) hok hy
    rw [h1]; exact h3.lenP
theorem plc_vals {K : List UInt8} {ys : List Ent} {m : Nat} (hok : OkM ys (m : Int)) : Vals (ys.map Prod.fst) (plc K ys m) := by
  by_cases hy : ys = []
  · intro p hp
    unfold plc at hp
    rw [if_pos hy] at hp
    exact .inl (List.mem_replicate.1 hp).2
  · obtain ⟨st, h1, _, h3, _⟩ := plc_fin (K := K) hok hy
    intro p hp
    rw [h1] at hp
    have := h3.val p hp
    rw [List.length_map] at this ⊢
    exact this
theorem plc_full {K : List UInt8} {ys : List Ent} {m : Nat} (hok : OkM ys (m : Int)) (hy : ys ≠ []) : ∀ p ∈ plc K ys m, 0 ≤ p ∧ p < ys.length := by
  obtain ⟨st, h1, h2, h3, _⟩ := plc_fin (K := K) hok hy
  intro p hp
  rw [h1] at hp
  have hc := h3.cnt
  have hl := h3.lenP
  have h4 := List.countP_eq_length.1 (hc.trans (h2.trans hl.symm)) p hp
  have h5 := h3.val p hp
  rw [List.length_map] at h5
  have h6 : p ≠ -1 := by simpa using h4
  omega
end Go.Proofs.Ytclngmjfhlindaa.Ma
