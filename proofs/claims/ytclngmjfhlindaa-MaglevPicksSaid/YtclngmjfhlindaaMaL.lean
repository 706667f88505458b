/- The table's Walk. -/
import Derived.Test.YtclngmjfhlindaaMaK
namespace Go.Proofs.Ytclngmjfhlindaa.Ma
open Go.RowKit Go.Proofs.Ytclngmjfhlindaa.Sip
set_option linter.unusedVariables false
/-- Those that come, each once, nobody left out. -/
def firsts (out : List Nat) : List Int → List Nat
  | [] => out
  | p :: l => if p = -1 ∨ p.toNat ∈ out then firsts out l else firsts (out ++ [p.toNat]) l
theorem firsts_app (l1 l2 : List Int) : ∀ out, firsts out (l1 ++ l2) = firsts (firsts out l1) l2 := by
  induction l1 with
  | nil => intro out; rfl
  | cons p l ih =>
    intro out
    rw [List.cons_append, firsts, firsts]
    split
    · exact ih out
    · exact ih _
theorem firsts_snoc (l : List Int) (p : Int) (out : List Nat) : firsts out (l ++ [p]) = if p = -1 ∨ p.toNat ∈ firsts out l then firsts out l else firsts out l ++ [p.toNat] := by
  rw [firsts_app]; rfl
theorem firsts_len (n : Nat) (l : List Int) : ∀ out : List Nat, (∀ p ∈ l, p = -1 ∨ (0 ≤ p ∧ p < n)) → (∀ q ∈ out, q < n) → out.Nodup → (∀ q ∈ firsts out l, q < n) ∧ (firsts out l).Nodup := by
  induction l with
  | nil => intro out _ h2 h3; exact ⟨h2, h3⟩
  | cons p l ih =>
    intro out h1 h2 h3
    rw [firsts]
    split
    · exact ih out (fun q hq => h1 q (List.mem_cons_of_mem _ hq)) h2 h3
    · rename_i hc
      have hp := h1 p (by simp)
      refine ih _ (fun q hq => h1 q (List.mem_cons_of_mem _ hq)) ?_ ?_
      · intro q hq
        rcases List.mem_append.1 hq with h | h
        · exact h2 q h
        · rw [List.mem_singleton] at h; omega
      · rw [List.nodup_append]
        refine ⟨h3, by simp, ?_⟩
        intro a ha b hb e
        rw [List.mem_singleton] at hb
        subst hb; subst e
        exact hc (.inr ha)
/-- A number from n different ones below n. -/
theorem nodup_lt {n : Nat} {l : List Nat} (h : l.Nodup) (hl : ∀ q ∈ l, q < n) : l.length ≤ n := by
  rcases Nat.lt_or_ge n l.length with hlt | hge
  · obtain ⟨a, b, hab, hb, e⟩ := php n (fun k => l.getD k 0) (fun k hk => by
      show l.getD k 0 < n
      rw [List.getD_eq_getElem?_getD, List.getElem?_eq_getElem (by omega)]
      exact hl _ (List.getElem_mem _))
    rw [List.getD_eq_getElem?_getD, List.getD_eq_getElem?_getD, List.getElem?_eq_getElem (by omega), List.getElem?_eq_getElem (by omega)] at e
    exact absurd e (List.pairwise_iff_getElem.1 h a b (by omega) (by omega) hab)
  · exact hge
def nm (names : List (List UInt8)) (q : Nat) : List UInt8 := names.getD q []
/-- What Walk answers from a place on. -/
def walkS (names : List (List UInt8)) (P : List Int) (a : Nat) : List (List UInt8) := (firsts [] (P.drop a ++ P.take a)).map (nm names)
def seenV (n : Nat) (out : List Nat) : List Value := (List.range n).map (fun i => Value.bool (decide (i ∈ out)))
theorem seen_get (n : Nat) (out : List Nat) (i : Nat) (h : i < n) : (seenV n out)[i]? = some (Value.bool (decide (i ∈ out))) := by
  unfold seenV
  rw [List.getElem?_map, List.getElem?_range h]; rfl
theorem seen_set (n : Nat) (out : List Nat) (q : Nat) (hq : q < n) : seenV n (out ++ [q]) = (seenV n out).set q (.bool true) := by
  have hl : ∀ o, (seenV n o).length = n := fun o => by unfold seenV; simp
  apply List.ext_getElem?
  intro i
  rw [List.getElem?_set, hl]
  by_cases hi : i < n
  · rw [seen_get _ _ _ hi, seen_get _ _ _ hi]
    by_cases e : q = i
    · subst e; rw [if_pos rfl, if_pos hq]; simp
    · rw [if_neg e]
      have : ¬ i = q := fun h => e h.symm
      simp [this]
  · rw [List.getElem?_eq_none (by rw [hl]; omega), if_neg (by omega), List.getElem?_eq_none (by rw [hl]; omega)]
theorem infoB : (Try.prog.info? 4).map (fun i => (i.zero, i.size, i.bytes)) = some (some (.bool false), 1, 1) := by kernel_rfl
theorem belowN_lt (x : Nat) (hx : x < 18446744073709551616) (n : Nat) (hn : 1 ≤ n) : ∃ a : Nat, belowN x (n : Int) = (a : Int) ∧ a < n := by
  unfold belowN
  rw [if_neg (by omega), Int.toNat_natCast]
  refine ⟨_, rfl, Nat.div_lt_of_lt_mul ?_⟩
  exact Nat.mul_lt_mul_of_pos_right hx (by omega)
/-- What has been gone through before part i. -/
def gone (P : List Int) (a : Nat) : Nat → List Int
  | 0 => []
  | 1 => P.drop a
  | _ => P.drop a ++ P.take a
theorem gone_mem (P : List Int) (a : Nat) : ∀ i, ∀ p ∈ gone P a i, p ∈ P
  | 0, p, h => by cases h
  | 1, p, h => List.mem_of_mem_drop h
  | i + 2, p, h => by
    rcases List.mem_append.1 h with h | h
    · exact List.mem_of_mem_drop h
    · exact List.mem_of_mem_take h
theorem firsts_le {names : List (List UInt8)} {P : List Int} (hv : Vals names P) (l : List Int) (h : ∀ p ∈ l, p ∈ P) : (firsts [] l).length ≤ names.length ∧ ∀ q ∈ firsts [] l, q < names.length := by
  have h1 := firsts_len names.length l [] (fun p hp => hv p (h p hp)) (by simp) List.nodup_nil
  exact ⟨nodup_lt h1.2 h1.1, h1.1⟩
theorem ownsRow_at {w w' : World} {base g cap n size : Nat} {e : TypeId} {xs : List Value} (h : w.ownsRow base e size (.slice (some ⟨g, 0, none⟩) n cap) n xs) (hg : w'.heap[g]? = w.heap[g]?) : w'.ownsRow base e size (.slice (some ⟨g, 0, none⟩) n cap) n xs := by
  obtain ⟨h1, h2⟩ := h
  refine ⟨h1, h2.imp id ?_⟩
  rintro ⟨g', cap', cur, hv, hb, hg', rest⟩
  cases hv
  exact ⟨g, cap, cur, rfl, hb, hg.trans hg', rest⟩
theorem ownsRow_mono {w : World} {base base' size n : Nat} {e : TypeId} {v : Value} {xs : List Value} (h : w.ownsRow base e size v n xs) (hb : base' ≤ base) : w.ownsRow base' e size v n xs := by
  obtain ⟨h1, h2⟩ := h
  refine ⟨h1, h2.imp id ?_⟩
  rintro ⟨g', cap', cur, hv, hb', rest⟩
  exact ⟨g', cap', cur, hv, Nat.le_trans hb hb', rest⟩
theorem new2s (w : World) (a b : Value) (T : TypeId) : (w.alloc (.cells #[a, b] T)).cell? ⟨w.heap.size, 0, none⟩ = some a ∧ (w.alloc (.cells #[a, b] T)).cell? ⟨w.heap.size, 1, none⟩ = some b := new_two w a b T
set_option maxRecDepth 100000 in
set_option maxHeartbeats 2000000 in
theorem walk_any (names : List (List UInt8)) (P : List Int) (hv : Vals names P) (tb : Nat) (x : Nat) (hx : x < 18446744073709551616) (w : World) (hT : Tab w tb names P) (hl : P.length ≤ 1048576) (hl1 : 1 ≤ P.length) (hn : names.length ≤ 1000000) :
    Calls Try.prog 18 #[.pointer (some ⟨tb, 0, none⟩), .int .u64 x] w fun e w' => ∃ v, e = .returned v ∧ OwnStrs w' w.heap.size v (walkS names P (belowN x (P.length : Int)).toNat) ∧ Below w.heap.size w w' := by
  obtain ⟨i0, hi, hz0, hz1, hz2⟩ := info_parts infoB
  obtain ⟨i1, hi1, hy0, hy1, hy2⟩ := info_parts infoStr
  have hl0 := hT.lt
  obtain ⟨at_, hat, hatl⟩ := belowN_lt x hx P.length hl1
  have dB := fun W => below_any x hx (P.length : Int) (by omega) W
  rw [hat] at dB ⊢
  rw [Int.toNat_natCast]
  clear hat
  obtain ⟨nv, pb, pc, h1, h2, h3, A, c, rfl, hc, hr⟩ := hT
  have hb0 : Below w.heap.size w w := Below.refl _ _
  have c0 : w.cell? ⟨tb, 0, none⟩ = some (.slice A names.length c) := (cell_of_row _ tb 0 _ _ _ h1).trans rfl
  have c1 : w.cell? ⟨tb, 1, none⟩ = some (.slice (some ⟨pb, 0, none⟩) P.length pc) := (cell_of_row _ tb 1 _ _ _ h1).trans rfl
  clear h1
  go_enter Try.func18, Try.ntmps18
  go_wp2_with (first
    | (at_make; refine wpList_make_full _ rfl _ _ 76 rfl w.heap.size 4 i0 _ 1 Try.underlying76 hi hz0 hz1 .i64 .i64 _ _ names.length rfl rfl rfl rfl (by rw [hz2]; omega) (by unfold maxLen; omega) (Nat.le_refl _) ?_; intro w1 hown1 hgrow1; have hb1 := hb0.grown hgrow1 (Nat.le_refl _) (fun k e => by cases e); have c2 : w1.cell? ⟨tb, 1, none⟩ = some (.slice (some ⟨pb, 0, none⟩) P.length pc) := (hb1.cell (p := ⟨tb, 1, none⟩) hl0).trans c1)
    | (go_at_call 36; refine (dB _).mono ?_; rintro e w2 ⟨rfl, rfl⟩))
  have hsz2 : w.heap.size < w2.heap.size := (hown1.lt _ rfl).2
  have hst : (madeCells (Value.bool false).cells (names.length * 1)).toList = seenV names.length (firsts [] (gone P at_ 0)) := by
    rw [Nat.mul_one, show (Value.bool false).cells = #[Value.bool false] from rfl, toList_madeCells_one]
    unfold seenV
    apply List.ext_getElem?
    intro j
    rw [List.getElem?_replicate, List.getElem?_map]
    by_cases hj : j < names.length
    · rw [if_pos hj, List.getElem?_range hj]; rfl
    · rw [if_neg hj, List.getElem?_eq_none (by simp; omega)]; rfl
  rw [hst] at hown1
  clear hst hgrow1 dB
  have z1 : (0 : Int) ≤ (at_ : Int) := by omega
  have z2 : (at_ : Int) ≤ (P.length : Int) := by omega
  have z3 : ¬ pc = at_ := by omega
  have z4 : (at_ : Int) ≤ (pc : Int) := by omega
  have z5 : at_ ≤ pc := by omega
  go_region_held3 (fun w' => w'.cell? ⟨tb, 1, none⟩ = some (.slice (some ⟨pb, 0, none⟩) P.length pc)) (first | assumption | exact c2 | (refine oldA ?_ ?_ _ <;> first | assumption | (show tb < w2.heap.size; have := hb1.size; omega))) (fail)
  go_wp2
  have hQ := Lib.hid (show (w2.alloc (.cells #[.slice (some ⟨pb, at_, none⟩) (P.length - at_) (pc - at_), .slice (some ⟨pb, 0, none⟩) at_ pc] 43)).drew.heap[w2.heap.size]? = _ from heap_alloc_new w2 (.cells #[.slice (some ⟨pb, at_, none⟩) (P.length - at_) (pc - at_), .slice (some ⟨pb, 0, none⟩) at_ pc] 43))
  have hown3 := (hown1.alloc (.cells #[.slice (some ⟨pb, at_, none⟩) (P.length - at_) (pc - at_), .slice (some ⟨pb, 0, none⟩) at_ pc] 43)).drew
  have hb3 := (hb1.alloc hb1.size (.cells #[.slice (some ⟨pb, at_, none⟩) (P.length - at_) (pc - at_), .slice (some ⟨pb, 0, none⟩) at_ pc] 43)).drew
  have hz3 : w2.heap.size < (w2.alloc (.cells #[.slice (some ⟨pb, at_, none⟩) (P.length - at_) (pc - at_), .slice (some ⟨pb, 0, none⟩) at_ pc] 43)).drew.heap.size := by show w2.heap.size < (w2.alloc _).heap.size; simp
  have ho3 : (w2.alloc (.cells #[.slice (some ⟨pb, at_, none⟩) (P.length - at_) (pc - at_), .slice (some ⟨pb, 0, none⟩) at_ pc] 43)).drew.ownsRow (w2.heap.size + 1) 9 1 (.slice none 0 0) (firsts [] (gone P at_ 0)).length ((firsts [] (gone P at_ 0)).map (fun q => Value.string (mk (nm names q)))) := World.ownsRow_nil _ _ _ _
  generalize (w2.alloc (.cells #[.slice (some ⟨pb, at_, none⟩) (P.length - at_) (pc - at_), .slice (some ⟨pb, 0, none⟩) at_ pc] 43)).drew = w3 at *
  have hP0 := h3.2
  have hpl := h3.1
  generalize hq0 : w2.heap.size = q0 at *
  generalize hg : w.heap.size = g at *
  clear hown1 hb1 c2 z3 z4 h3
  go_loopw [6, 39] (fun ov iv wr => ∃ (i : Nat) (u : Value), u = ov ∧ i ≤ 2 ∧ iv = .int .i64 i ∧ wr.ownsRow g 4 1 (.slice (some ⟨g, 0, none⟩) names.length names.length) names.length (seenV names.length (firsts [] (gone P at_ i))) ∧ wr.ownsRow (q0 + 1) 9 1 u (firsts [] (gone P at_ i)).length ((firsts [] (gone P at_ i)).map (fun q => Value.string (mk (nm names q)))) ∧ Hid (wr.heap[q0]? = some (.cells #[.slice (some ⟨pb, at_, none⟩) (P.length - at_) (pc - at_), .slice (some ⟨pb, 0, none⟩) at_ pc] 43 (0, 0))) ∧ Below g w wr ∧ q0 < wr.heap.size) (fun _ iv _ => 2 - (intOf iv).toNat)
  case atStart => exact ⟨0, _, rfl, by omega, rfl, hown3, ho3, hQ, hb3, hz3⟩
  case round =>
    obtain ⟨i, u, rfl, hi2, rfl, hse, hou, hQ, hb, hqz⟩ := hrel
    by_cases d1 : i < 2
    · obtain ⟨o, n1, cp, hcell, hon, hgo⟩ : ∃ o n1 cp, wr.cell? ⟨q0, i, none⟩ = some (.slice (some ⟨pb, o, none⟩) n1 cp) ∧ o + n1 ≤ P.length ∧ Hid (gone P at_ (i + 1) = gone P at_ i ++ (P.drop o).take n1) := by
        have hcc := cell_of_row wr q0 i _ _ _ hQ.out
        rcases Nat.lt_or_ge 0 i with h | h
        · have : i = 1 := by omega
          subst this
          exact ⟨0, at_, pc, hcc.trans rfl, by omega, Lib.hid (by show P.drop at_ ++ P.take at_ = P.drop at_ ++ (P.drop 0).take at_; rw [List.drop_zero])⟩
        · have : i = 0 := by omega
          subst this
          exact ⟨at_, P.length - at_, pc - at_, hcc.trans rfl, by omega, Lib.hid (by show P.drop at_ = [] ++ (P.drop at_).take (P.length - at_); rw [List.nil_append, List.take_of_length_le (by simp)])⟩
      have d1' : (i : Int) < 2 := by omega
      go_wp2
      go_loopw [6, 45] (fun ov kv wr => ∃ (k : Nat) (u : Value), u = ov ∧ k ≤ n1 ∧ kv = .int .i64 k ∧ wr.ownsRow g 4 1 (.slice (some ⟨g, 0, none⟩) names.length names.length) names.length (seenV names.length (firsts [] (gone P at_ i ++ (P.drop o).take k))) ∧ wr.ownsRow (q0 + 1) 9 1 u (firsts [] (gone P at_ i ++ (P.drop o).take k)).length ((firsts [] (gone P at_ i ++ (P.drop o).take k)).map (fun q => Value.string (mk (nm names q)))) ∧ Hid (wr.heap[q0]? = some (.cells #[.slice (some ⟨pb, at_, none⟩) (P.length - at_) (pc - at_), .slice (some ⟨pb, 0, none⟩) at_ pc] 43 (0, 0))) ∧ Below g w wr ∧ q0 < wr.heap.size) (fun _ kv _ => n1 - (intOf kv).toNat)
      case atStart => exact ⟨0, _, rfl, Nat.zero_le _, rfl, by rw [List.take_zero, List.append_nil]; exact hse, by rw [List.take_zero, List.append_nil]; exact hou, hQ, hb, hqz⟩
      case round =>
        clear hse hou hQ hb hqz hcell
        obtain ⟨k, u, rfl, hk, rfl, hse, hou, hQ, hb, hqz⟩ := hrel
        by_cases d2 : k < n1
        · obtain ⟨p, hp⟩ : ∃ p, P[o + k]? = some p := ⟨_, List.getElem?_eq_getElem (by omega)⟩
          have hpc := (hb.cell (p := ⟨pb, o + k, none⟩) hpl).trans (hP0 (o + k) p hp)
          have hpv := hv p (List.mem_of_getElem? hp)
          have htk : (P.drop o).take (k + 1) = (P.drop o).take k ++ [p] := by rw [List.take_add_one, List.getElem?_drop, hp]; rfl
          have hsn := Lib.hid (show firsts [] (gone P at_ i ++ (P.drop o).take (k + 1)) = if p = -1 ∨ p.toNat ∈ firsts [] (gone P at_ i ++ (P.drop o).take k) then firsts [] (gone P at_ i ++ (P.drop o).take k) else firsts [] (gone P at_ i ++ (P.drop o).take k) ++ [p.toNat] by rw [htk, ← List.append_assoc, firsts_snoc])
          obtain ⟨hF1, hF2⟩ := firsts_le hv (gone P at_ i ++ (P.drop o).take k) (fun q hq => by
            rcases List.mem_append.1 hq with h | h
            · exact gone_mem P at_ i q h
            · exact List.mem_of_mem_drop (List.mem_of_mem_take h))
          clear htk hp hF2
          generalize hFF : firsts [] (gone P at_ i ++ (P.drop o).take k) = F at *
          clear hFF
          by_cases d3 : p = -1
          · have hnx := Lib.hid (show firsts [] (gone P at_ i ++ (P.drop o).take (k + 1)) = F by rw [hsn.out, if_pos (Or.inl d3)])
            subst d3
            clear hsn
            go_wp2
            go_roundw
            case rel => exact ⟨k + 1, _, rfl, by omega, by go_num, by rw [hnx.out]; exact hse, by rw [hnx.out]; exact hou, hQ, hb, hqz⟩
            case measure => simp [intOf]; omega
          · obtain ⟨q, rfl⟩ := Int.eq_ofNat_of_zero_le (show 0 ≤ p by omega)
            rw [Int.toNat_natCast] at hsn
            have hq : q < names.length := by omega
            have z1 : (0 : Int) ≤ (q : Int) := by omega
            have z2 : (q : Int) < (names.length : Int) := by omega
            have hsc : wr.cell? ⟨g, q, none⟩ = some (.bool (decide (q ∈ F))) := by rw [hse.cellAt q (by omega), seen_get _ _ _ hq]
            have hsf := hse.frozenAt q
            by_cases d4 : q ∈ F
            · have hnx := Lib.hid (show firsts [] (gone P at_ i ++ (P.drop o).take (k + 1)) = F by rw [hsn.out, if_pos (Or.inr d4)])
              rw [decide_eq_true d4] at hsc
              clear hsn d4
              go_wp2
              go_roundw
              case rel => exact ⟨k + 1, _, rfl, by omega, by go_num, by rw [hnx.out]; exact hse, by rw [hnx.out]; exact hou, hQ, hb, hqz⟩
              case measure => simp [intOf]; omega
            · have hnx := Lib.hid (show firsts [] (gone P at_ i ++ (P.drop o).take (k + 1)) = F ++ [q] by rw [hsn.out, if_neg (fun h => h.elim d3 d4)])
              rw [decide_eq_false d4] at hsc
              obtain ⟨nb, no, rfl, hnb, hnx0⟩ := hr (by omega)
              have hnc := (hb.cell (p := ⟨nb, no + q, none⟩) hnb).trans (hnx0 q names[q] (List.getElem?_eq_getElem hq))
              have hnm : Hid (nm names q = names[q]) := Lib.hid (by unfold nm; rw [List.getD_eq_getElem?_getD, List.getElem?_eq_getElem hq]; rfl)
              have hc0 := (hb.cell (p := ⟨tb, 0, none⟩) hl0).trans c0
              generalize names[q] = nmq at *
              clear hsn d4 hnx0
              have hS0 := (World.cell?_setCell_far wr ⟨g, q, none⟩ ⟨tb, 0, none⟩ (.bool true) (by show g ≠ tb; omega)).trans hc0
              have hS1 := (World.cell?_setCell_far wr ⟨g, q, none⟩ ⟨nb, no + q, none⟩ (.bool true) (by show g ≠ nb; omega)).trans hnc
              have hseS := hse.stored q (.bool true)
              have houS := ownsRow_setCell_below hou (a := ⟨g, q, none⟩) (by show g < q0 + 1; omega) (.bool true)
              have hQS := Lib.hid ((Below.heap_setCell wr ⟨g, q, none⟩ (.bool true) q0 (by show q0 ≠ g; omega)).trans hQ.out)
              have hbS := hb.grown hseS.2 (by have := hb.size; omega) (fun j e => by cases e; exact Nat.le_refl _)
              have hzS : q0 < (wr.setCell ⟨g, q, none⟩ (.bool true)).heap.size := by simp [World.setCell]; exact hqz
              have hbk := heap_alloc_new (wr.setCell ⟨g, q, none⟩ (.bool true)) (.cells #[.string (mk nmq)] 9)
              replace hseS := hseS.1
              rw [show (wr.setCell ⟨g, q, none⟩ (.bool true)).heap.size = wr.heap.size by simp [World.setCell]] at hbk
              have hWS : Hid (wr.setCell ⟨g, q, none⟩ (.bool true) = wr.setCell ⟨g, q, none⟩ (.bool true)) := Lib.hid rfl
              clear hc0 hnc hse hou hb hQ
              have hgz : g < (wr.setCell ⟨g, q, none⟩ (.bool true)).heap.size := by omega
              go_wp2_with (at_builtin; go_must (refine wpList_append_own _ rfl _ _ 36 rfl (q0 + 1) 9 i1 _ 1 16 Try.underlying36 hi1 hy0 hy1 hy2 rfl (by decide) _ _ _ rfl (houS.alloc _) ⟨_, 0, none⟩ 1 1 [.string (mk nmq)] rfl rfl (World.news_of_block hbk) (by simp [Value.oneCell']) (by unfold maxLen; omega) (by omega) (by simp; omega) ?_; intro v' w5 hown' hgrow _))
              have hneG : ∀ j, u.ownBlock = some j → q0 + 1 ≤ j := fun j e => (houS.lt j e).1
              have hgk : w5.heap[g]? = (wr.setCell ⟨g, q, none⟩ (.bool true)).heap[g]? := (hgrow.block g (by simp; omega) (fun e => by have := hneG g e.symm; omega)).trans (Below.heap_alloc _ _ _ hgz)
              have hQ5 : w5.heap[q0]? = _ := (hgrow.block q0 (by simp; omega) (fun e => by have := hneG q0 e.symm; omega)).trans ((Below.heap_alloc _ _ _ hzS).trans hQS.out)
              have hse5 := ownsRow_at hseS hgk
              have hb5 : Below g w w5 := grow_low (hbS.alloc (by omega) _) (by simp; omega) hgrow (fun b e => by have := hneG b e; omega)
              have hq5 : q0 < w5.heap.size := by have := hgrow.size; simp at this; omega
              go_roundw
              case rel => exact ⟨k + 1, _, rfl, by omega, by go_num, by rw [hnx.out, seen_set _ _ _ hq]; exact hse5, by rw [hnx.out, List.map_append, List.length_append]; show w5.ownsRow _ _ _ _ (F.length + 1) (_ ++ [Value.string (mk (nm names q))]); rw [hnm.out]; exact hown', Lib.hid hQ5, hb5, hq5⟩
              case measure => simp [intOf]; omega
        · have hkn : k = n1 := by omega
          subst hkn
          rw [← hgo.out] at hse hou
          go_wp2
          go_roundw
          case rel => exact ⟨i + 1, _, rfl, by omega, by go_num, hse, hou, hQ, hb, hqz⟩
          case measure => simp [intOf]; omega
    · have hi : i = 2 := by omega
      subst hi
      have hout := Lib.hid hou
      clear hou
      go_wp2
      go_ret
      refine ⟨u, rfl, ?_, ?_⟩ <;> (try rw [hg])
      · unfold OwnStrs walkS
        rw [List.length_map, List.map_map]
        exact ownsRow_mono hout.out (by omega)
      · exact hb
end Go.Proofs.Ytclngmjfhlindaa.Ma
