/- The document's From and Walk (printed by genU.py). -/
import Derived.Test.YtiamkhhnnlgemaaDoorRiK
namespace Go.Proofs.YtiamkhhnnlgemaaDoor.Ri
open Go.RowKit Go.Proofs.YtiamkhhnnlgemaaDoor.Sip
set_option linter.unusedVariables false
theorem infoStr2 : (Tryd.prog.info? 9).map (fun i => (i.zero, i.size, i.bytes)) = some (some (.string ⟨#[]⟩), 1, 16) := by kernel_rfl
theorem had_next {n y : List UInt8} {O : List (List UInt8)} {j : Nat} (hy : O[j]? = some y) {h : Bool} (hh : h = decide (n ∈ O.take j)) : (h || decide (y = n)) = decide (n ∈ O.take (j + 1)) := by
  subst hh
  rw [List.take_add_one, hy, Bool.eq_iff_iff]
  simp only [Option.toList_some, Bool.or_eq_true, decide_eq_true_iff, List.mem_append, List.mem_singleton]
  constructor
  · rintro (h | h)
    · exact .inl h
    · exact .inr h.symm
  · rintro (h | h)
    · exact .inl h
    · exact .inr h.symm

def addN (O : List (List UInt8)) (p : Pt) : List (List UInt8) := if p.2 ∈ O then O else O ++ [p.2]
/-- All names, each once, in the points' order. -/
def walkF (l : List Pt) : List (List UInt8) := l.foldl addN []
theorem walkF_snoc (l : List Pt) (p : Pt) : walkF (l ++ [p]) = addN (walkF l) p := by unfold walkF; rw [List.foldl_append]; rfl
theorem foldN_len : ∀ (l : List Pt) (O : List (List UInt8)), (l.foldl addN O).length ≤ O.length + l.length
  | [], O => by simp
  | p :: l, O => by
    have := foldN_len l (addN O p)
    have h2 : (addN O p).length ≤ O.length + 1 := by unfold addN; split <;> simp
    rw [List.foldl_cons, List.length_cons]; omega
theorem walkF_len (l : List Pt) : (walkF l).length ≤ l.length := by have := foldN_len l []; simpa [walkF] using this
set_option maxHeartbeats 1000000 in
theorem refFrom_any (ps : List Pt) (x : Int) (v : Value) (w : World) (hv : Pts w v ps) (hN : ps.length ≤ 1000000) :
    Calls Tryd.prog 16 #[v, .int .u64 x] w fun e w' => e = .returned (.int .i64 (fromN ps x : Nat)) ∧ Below w.heap.size w w' := by
  obtain ⟨A, c, rfl, hc, hr⟩ := hv
  have hb0 : Below w.heap.size w w := Below.refl _ _
  go_enter Tryd.func16, Tryd.ntmps16
  go_wp2
  generalize hg : w.heap.size = g at *
  go_loopw [9] (fun iv wr => ∃ k : Nat, k ≤ ps.length ∧ iv = .int .i64 k ∧ Hid (∀ j p, j < k → ps[j]? = some p → p.1 < x) ∧ Below g w wr) (fun iv _ => ps.length - (intOf iv).toNat)
  case atStart => exact ⟨0, Nat.zero_le _, rfl, Lib.hid (fun j p h => by omega), hb0⟩
  case round =>
    obtain ⟨k, hk, rfl, h1, hb⟩ := hrel
    have hgw : g ≤ wr.heap.size := by have := hb.size; omega
    by_cases c1 : k < ps.length
    · obtain ⟨b, o, rfl, hbl, hx⟩ := hr (by omega)
      obtain ⟨p, hp⟩ : ∃ p, ps[k]? = some p := ⟨_, List.getElem?_eq_getElem c1⟩
      obtain ⟨e0, e1⟩ := hx k p hp
      have q0 := (hb.cell (p := ⟨b, o + k * 2, none⟩) (by show b < g; omega)).trans e0
      have q1 := (hb.cell (p := ⟨b, o + k * 2 + 1, none⟩) (by show b < g; omega)).trans e1
      have hp' := Lib.hid hp
      have c1' := Lib.hid c1
      clear e0 e1 hx hp
      by_cases c2 : x ≤ p.1
      · have hX := Lib.hid (show fromN ps x = k by
          have hl : lbN ps x = k := lbN_is ps x k (by omega) h1.out (fun p' h => by rw [hp'.out] at h; cases h; omega)
          have := c1'.out
          unfold fromN; rw [hl, if_neg (by omega)])
        go_wp2
        go_ret
        exact ⟨ret_i64 (show (k : Int) = ((fromN ps x : Nat) : Int) by rw [hX.out]), by rw [hg]; exact hb.alloc hgw _⟩
      · have hnx := Lib.hid (show ∀ j q, j < k + 1 → ps[j]? = some q → q.1 < x from fun j q hj hq => by
          rcases Nat.lt_or_ge j k with h | h
          · exact h1.out j q h hq
          · have : j = k := by omega
            subst this
            rw [hp'.out] at hq; cases hq; omega)
        clear h1
        go_wp2
        go_roundw
        case rel => exact ⟨k + 1, by omega, by go_num, hnx, hb.alloc hgw _⟩
        case measure => simp [intOf]; omega
    · have hX := Lib.hid (show fromN ps x = 0 by
        have hl : lbN ps x = ps.length := lbN_is ps x ps.length (Nat.le_refl _) (fun j p hj hp => h1.out j p (by omega) hp) (fun p h => by simp at h)
        unfold fromN; rw [hl, if_pos rfl])
      go_wp2
      go_ret
      exact ⟨by rw [hX.out]; rfl, by rw [hg]; exact hb⟩
set_option maxRecDepth 100000 in
set_option maxHeartbeats 2000000 in
theorem refWalk_any (ps : List Pt) (x : Int) (v : Value) (w : World) (hv : Pts w v ps) (hN : ps.length ≤ 1000000) :
    Calls Tryd.prog 20 #[v, .int .u64 x] w fun e w' => ∃ u, e = .returned u ∧ OwnStrs w' w.heap.size u (walkF (roundL ps (fromN ps x))) ∧ Below w.heap.size w w' := by
  obtain ⟨i1, hi1, hy0, hy1, hy2⟩ := info_parts infoStr2
  have dF := fun W h => refFrom_any ps x v W h hN
  have hb0 : Below w.heap.size w w := Below.refl _ _
  have hfl := fromN_lt ps x
  generalize fromN ps x = a at *
  have hrl := Lib.hid (show (roundL ps a).length = ps.length by
    rcases hfl with h | h
    · subst h; simp [roundL]
    · exact round_len _ _ (by omega))
  have ho0 : (w.alloc (.cells #[] 9)).ownsRow w.heap.size 9 1 (.slice (some ⟨w.heap.size, 0, none⟩) 0 0) (walkF ((roundL ps a).take 0)).length ((walkF ((roundL ps a).take 0)).map (fun x => Value.string (mk x))) := World.ownsRow_lit w #[] 0 (Nat.le_refl _) (by unfold maxLen; omega) rfl
  have hb1 := hb0.alloc (Nat.le_refl _) (.cells #[] 9)
  have hv1 := hv.below hb1
  have hz1 : w.heap.size < (w.alloc (.cells #[] 9)).heap.size := by simp
  have hvv := hv
  obtain ⟨A, ca, rfl, hca, hra⟩ := hvv
  go_enter Tryd.func20, Tryd.ntmps20
  go_wp2_with (go_at_call 16; (with_reducible refine (dF _ hv1).mono ?_); rintro e w2 ⟨rfl, hb2⟩)
  have hb3 := hb1.trans (hb2.mono (Nat.le_of_lt hz1))
  have ho1 := own_below ho0 hb2
  have hz2 : w.heap.size ≤ w2.heap.size := by have := hb2.size; omega
  clear hb1 hb2 ho0 dF hv1 hz1 hb0
  generalize hg : w.heap.size = g at *
  go_loopw [5, 18] (fun u i wr => ∃ (k : Nat) (u0 : Value), u0 = u ∧ k ≤ ps.length ∧ i = .int .i64 k ∧ wr.ownsRow g 9 1 u (walkF ((roundL ps a).take k)).length ((walkF ((roundL ps a).take k)).map (fun x => Value.string (mk x))) ∧ Below g w wr) (fun _ i _ => ps.length - (intOf i).toNat)
  case atStart => exact ⟨0, _, rfl, Nat.zero_le _, rfl, ho1, hb3⟩
  case round =>
    obtain ⟨k, u, rfl, hk, rfl, hown, hb⟩ := hrel
    by_cases c1 : k < ps.length
    · have hgw : g ≤ wr.heap.size := by have := hb.size; omega
      obtain ⟨ba, oa, rfl, hla, hxa⟩ := hra (by omega)
      have hal : a < ps.length := by rcases hfl with h | h; (subst h; simp at c1); exact h
      have hml : (a + k) % ps.length < ps.length := Nat.mod_lt _ (by omega)
      have hrg := round_get ps a k hal c1
      obtain ⟨p, hgp⟩ : ∃ p, ps[(a + k) % ps.length]? = some p := ⟨_, List.getElem?_eq_getElem hml⟩
      obtain ⟨e0, e1⟩ := hxa _ p hgp
      have q0 := (hb.cell (p := ⟨ba, oa + (a + k) % ps.length * 2, none⟩) (by show ba < _; omega)).trans e0
      have q1 := (hb.cell (p := ⟨ba, oa + (a + k) % ps.length * 2 + 1, none⟩) (by show ba < _; omega)).trans e1
      have hOl := walkF_len ((roundL ps a).take k)
      rw [List.length_take] at hOl
      have hnx := Lib.hid (show walkF ((roundL ps a).take (k + 1)) = if p.2 ∈ walkF ((roundL ps a).take k) then walkF ((roundL ps a).take k) else walkF ((roundL ps a).take k) ++ [p.2] by
        rw [List.take_add_one, hrg, hgp]
        exact walkF_snoc _ _)
      generalize hOO : walkF ((roundL ps a).take k) = O at *
      obtain ⟨pa, n⟩ := p
      simp only at q0 q1 hnx
      have x1 : IntKind.i64.wrap ((a : Int) + (k : Int)) = (a : Int) + (k : Int) := IntWalk.i64_in _ (by omega)
      have x2 : ((a : Int) + (k : Int)).tmod (ps.length : Int) = (((a + k) % ps.length : Nat) : Int) := rfl
      have x3 : ¬ (ps.length : Int) = 0 := by omega
      have x4 : ¬ ps.length = 0 := by omega
      generalize (a + k) % ps.length = ix at *
      have z1 : (0 : Int) ≤ (ix : Int) := by omega
      have z2 : (ix : Int) < (ps.length : Int) := by omega
      have hOS := row_strs hown
      obtain ⟨A5, c5, rfl⟩ := row_slice hown
      obtain ⟨A5', c5', hAe, hc5, hr5⟩ := hOS
      cases hAe
      clear hrg hgp hOO hrl e0 e1 hxa hra
      have hbk := heap_alloc_new wr (Obj.cells #[.string (mk n)] 9)
      have hno := Lib.hid hown
      have hOl' : O.length ≤ 1000000 := by omega
      clear hOl hown
      go_wp2
      go_loop [9, 33] (fun hv iv => ∃ (j : Nat) (h : Bool), j ≤ O.length ∧ iv = .int .i64 j ∧ hv = .bool h ∧ Hid (h = decide (n ∈ O.take j))) (fun _ iv => O.length - (intOf iv).toNat)
      case atStart => exact ⟨0, false, Nat.zero_le _, rfl, rfl, Lib.hid (by simp)⟩
      case round =>
        obtain ⟨j, h, hj, rfl, rfl, hh⟩ := hrel
        by_cases c2 : j < O.length
        · obtain ⟨b5, o5, rfl, hl5, hx5⟩ := hr5 (by omega)
          obtain ⟨y, hy⟩ : ∃ y, O[j]? = some y := ⟨_, List.getElem?_eq_getElem c2⟩
          have hc := hx5 j y hy
          clear hx5
          have hnn := Lib.hid (had_next hy hh.out)
          clear hy
          have c2' : (j : Int) < (O.length : Int) := by omega
          cases h
          · by_cases e : y = n
            · have ht : ((mk y).toList == (mk n).toList) = true := by rw [mk_eq, decide_eq_true e]
              have hnn2 := Lib.hid (show true = decide (n ∈ O.take (j + 1)) by rw [← hnn.out, decide_eq_true e]; rfl)
              clear e hnn
              go_wp2
              go_round
              case rel => exact ⟨j + 1, true, by omega, by go_num, by first | rfl | rw [ht], hnn2⟩
              case measure => simp [intOf]; omega
            · have ht : ((mk y).toList == (mk n).toList) = false := by rw [mk_eq, decide_eq_false e]
              have hnn2 := Lib.hid (show false = decide (n ∈ O.take (j + 1)) by rw [← hnn.out, decide_eq_false e]; rfl)
              clear e hnn
              go_wp2
              go_round
              case rel => exact ⟨j + 1, false, by omega, by go_num, by first | rfl | rw [ht], hnn2⟩
              case measure => simp [intOf]; omega
          · have hnn2 := Lib.hid (show true = decide (n ∈ O.take (j + 1)) by rw [← hnn.out]; rfl)
            clear hnn
            go_wp2
            go_round
            case rel => exact ⟨j + 1, true, by omega, by go_num, by first | rfl | rw [ht], hnn2⟩
            case measure => simp [intOf]; omega
        · have hH := Lib.hid (show h = decide (n ∈ O) by have := hh.out; rwa [List.take_of_length_le (by omega)] at this)
          have c2' : ¬ (j : Int) < (O.length : Int) := by omega
          clear hh
          cases h
          · have hn2 := Lib.hid (show walkF ((roundL ps a).take (k + 1)) = O ++ [n] by
              rw [hnx.out, if_neg (of_decide_eq_false hH.out.symm)])
            have hown := hno.out
            clear hno
            go_wp2_with (at_builtin; go_must (refine wpList_append_own _ rfl _ _ 51 rfl g 9 i1 _ 1 16 Tryd.underlying51 hi1 hy0 hy1 hy2 rfl (by decide) _ _ _ rfl (hown.alloc _) ⟨_, 0, none⟩ 1 1 [.string (mk n)] rfl rfl (World.news_of_block hbk) (by simp [Value.oneCell']) (by unfold maxLen; omega) (by omega) (by simp; omega) ?_; intro v' w5 hown' hgrow _))
            go_roundw
            case rel => exact ⟨k + 1, _, rfl, by omega, by go_num, by rw [hn2.out, List.map_append, List.length_append]; exact hown', grow_low (hb.alloc hgw _) (by simp; omega) hgrow (fun b e => (hown.lt b e).1)⟩
            case measure => simp [intOf]; omega
          · have hn2 := Lib.hid (show walkF ((roundL ps a).take (k + 1)) = O by
              rw [hnx.out, if_pos (of_decide_eq_true hH.out.symm)])
            have hown := hno.out
            clear hno
            go_wp2
            go_roundw
            case rel => exact ⟨k + 1, _, rfl, by omega, by go_num, by rw [hn2.out]; exact hown, hb⟩
            case measure => simp [intOf]; omega
    · have hkl : (roundL ps a).take k = roundL ps a := List.take_of_length_le (by rw [hrl.out]; omega)
      rw [hkl] at hown
      go_wp2
      go_ret
      refine ⟨u, rfl, ?_, ?_⟩ <;> (try rw [hg])
      · unfold OwnStrs
        exact hown
      · exact hb
end Go.Proofs.YtiamkhhnnlgemaaDoor.Ri
