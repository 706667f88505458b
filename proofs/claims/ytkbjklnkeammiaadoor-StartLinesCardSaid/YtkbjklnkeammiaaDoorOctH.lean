import Derived.Test.YtkbjklnkeammiaaDoorOctG
namespace Go.Proofs.YtkbjklnkeammiaaDoor.Oct
open Go.RowKit Go.Shelf
set_option linter.unusedVariables false
attribute [local go_sem] Oper.semAt_some

/-- A slice value reads as these texts. -/
def Strs (w : World) (v : Value) (xs : List ByteArray) : Prop :=
  ∃ A c, v = .slice A xs.length c ∧ xs.length ≤ c ∧ (0 < xs.length → ∃ b o, A = some ⟨b, o, none⟩ ∧ b < w.heap.size ∧ ∀ j x, xs[j]? = some x → w.cell? ⟨b, o + j, none⟩ = some (.string x))
theorem Strs.below {w w' : World} {v : Value} {xs : List ByteArray} (h : Strs w v xs) (hb : Below w.heap.size w w') : Strs w' v xs := by
  obtain ⟨A, c, hv, hc, hr⟩ := h
  refine ⟨A, c, hv, hc, fun hp => ?_⟩
  obtain ⟨b, o, hA, hlt, hx⟩ := hr hp
  exact ⟨b, o, hA, Nat.lt_of_lt_of_le hlt hb.size, fun j x hj => (hb.cell (p := ⟨b, o + j, none⟩) hlt).trans (hx j x hj)⟩
/-- Texts in memory of the call's own. -/
def OwnStrs (w : World) (base : Nat) (v : Value) (xs : List ByteArray) : Prop := w.ownsRow base 9 1 v xs.length (xs.map Value.string)
theorem OwnStrs.strs {w : World} {base : Nat} {v : Value} {xs : List ByteArray} (h : OwnStrs w base v xs) : Strs w v xs := by
  have h0 : w.ownsRow base 9 1 v xs.length (xs.map Value.string) := h
  obtain ⟨h1, h2⟩ := h
  rcases h2 with ⟨rfl, h3⟩ | ⟨g, cap, cur, rfl, h3, h4, h5⟩
  · have hx : xs = [] := by simpa using h3
    subst hx
    exact ⟨none, 0, rfl, Nat.le_refl _, fun h => absurd h (by simp)⟩
  · have hlt : g < w.heap.size := (Array.getElem?_eq_some_iff.1 h4).1
    refine ⟨_, cap, rfl, h5.1, fun _ => ⟨g, 0, rfl, hlt, fun j x hj => ?_⟩⟩
    have := h0.cells (g := g) rfl j (.string x) (by simp [hj])
    rw [← this]
    simp only [Addr.add]
    split
    · subst_vars; rfl
    · rfl

theorem join_any (xs : List ByteArray) (v : Value) (w : World) (hv : Strs w v xs) (hN : xs.length ≤ 140737488355328) (hlen : (Lib.join (xs.map (·.data.toList)) [44]).length ≤ 140737488355328) :
    Calls Tryd.prog 68 #[v, .string ⟨#[44]⟩] w fun e w' => e = .returned (.string ⟨(Lib.join (xs.map (·.data.toList)) [44]).toArray⟩) ∧ Below w.heap.size w w' := by
  obtain ⟨A, c, rfl, hc, hr⟩ := hv
  by_cases hp : 0 < xs.length
  · obtain ⟨b, o, rfl, hlt, hx⟩ := hr hp
    exact Tryd.strings_Join b o c xs ⟨#[44]⟩ w hx hlt hN hc hlen
  · have hx : xs = [] := List.length_eq_zero_iff.1 (by omega)
    subst hx
    exact (Tryd.strings_Join_none A c ⟨#[44]⟩ w).mono fun e w' ⟨h1, h2⟩ => ⟨by rw [h1]; rfl, by rw [h2]; exact Below.refl _ _⟩

/-- Parts of texts, trimmed, the empty ones left out. -/
def keepL (l : List (List UInt8)) : List (List UInt8) := (l.map trimL).filter (fun p => !p.isEmpty)
def listL (l : List (List UInt8)) : List (List UInt8) := keepL (parts (Lib.join l [44]))
def listS (xs : List ByteArray) : List ByteArray := (listL (xs.map (·.data.toList))).map (fun p => ⟨p.toArray⟩)
theorem keepL_snoc (l : List (List UInt8)) (p : List UInt8) : keepL (l ++ [p]) = keepL l ++ if (trimL p).isEmpty = true then [] else [trimL p] := by
  unfold keepL
  rw [List.map_append, List.filter_append]
  cases h : (trimL p).isEmpty <;> simp [h]
theorem info9 : (Tryd.prog.info? 9).map (fun i => (i.zero, i.size, i.bytes)) = some (some (.string ⟨#[]⟩), 1, 16) := by kernel_rfl

theorem splitSeq_box (s : ByteArray) (w : World) :
    Calls Tryd.prog 67 #[.string s, .string ⟨#[44]⟩] w fun e w' => ∃ B, e = .returned (.func (.func 115) #[] #[.pointer (some ⟨B + 1, 0, none⟩), .pointer (some ⟨B, 0, none⟩), .pointer (some ⟨B + 2, 0, none⟩)]) ∧ w.heap.size = B ∧ w'.heap.size = B + 3 ∧
      Boxed w' (B + 1) 9 (.string ⟨#[44]⟩) ∧ Boxed w' B 9 (.string s) ∧ Boxed w' (B + 2) 3 (.int .i64 0) ∧ Below w.heap.size w w' := by
  refine (splitSeq_any s w).mono fun e w' ⟨h1, h2⟩ => ⟨w.heap.size, h1, rfl, ?_⟩
  subst h2
  have b0 := Boxed.new w 9 (.string s)
  have b1 := Boxed.new (w.alloc (.cells #[.string s] 9)) 9 (.string ⟨#[44]⟩)
  have b2 := Boxed.new ((w.alloc (.cells #[.string s] 9)).alloc (.cells #[.string ⟨#[44]⟩] 9)) 3 (.int .i64 0)
  rw [World.size_alloc] at b1
  rw [World.size_alloc, World.size_alloc] at b2
  exact ⟨by simp, b1.alloc _, (b0.alloc _).alloc _, b2, ((((Below.refl _ w).alloc (Nat.le_refl _) _).alloc (by simp) _).alloc (by simp; omega) _)⟩

theorem box_below {w w' : World} {B : Nat} {t : TypeId} {v : Value} (h : Boxed w B t v) (hb : Below w.heap.size w w') : Boxed w' B t v := (hb.block B h.lt).trans h
theorem box_far {w : World} {B : Nat} {t : TypeId} {v : Value} (h : Boxed w B t v) (b : Nat) (hne : B ≠ b) (u : Value) : Boxed (w.setCell ⟨b, 0, none⟩ u) B t v := (Below.heap_setCell w ⟨b, 0, none⟩ u B hne).trans h
theorem own_lower {w : World} {base base' : Nat} {e : TypeId} {size n : Nat} {v : Value} {xs : List Value} (h : w.ownsRow base e size v n xs) (hb : base' ≤ base) : w.ownsRow base' e size v n xs := by
  obtain ⟨h1, h2⟩ := h
  refine ⟨h1, ?_⟩
  rcases h2 with h2 | ⟨g, cap, cur, hv, hg, r⟩
  · exact .inl h2
  · exact .inr ⟨g, cap, cur, hv, by omega, r⟩
theorem own_none (v : Value) : v.ownBlock = none ∨ v.ownBlock ≠ none := by cases v.ownBlock <;> simp
theorem grown_below {w w' : World} (h : Below w.heap.size w w') : w.grownBy w' none := ⟨h.os, h.tape, h.output, h.size, fun k hk _ => h.block k hk⟩

theorem parts_len (l : List UInt8) : (parts l).length ≤ l.length + 1 ∧ ∀ p ∈ parts l, p.length ≤ l.length := by
  induction l with
  | nil => simp [parts]
  | cons x r ih =>
    obtain ⟨h1, h2⟩ := ih
    rw [parts_cons]
    by_cases hx : x = 44
    · rw [if_pos hx]
      refine ⟨by simp; omega, fun p hp => ?_⟩
      rcases List.mem_cons.1 hp with rfl | hp
      · simp
      · have := h2 p hp; simp; omega
    · rw [if_neg hx]
      cases hr : parts r with
      | nil => simp
      | cons q t =>
        rw [hr] at h1 h2
        refine ⟨by simp at h1 ⊢; omega, fun p hp => ?_⟩
        rcases List.mem_cons.1 hp with rfl | hp
        · have := h2 q (by simp); simp; omega
        · have := h2 p (by simp [hp]); simp; omega
theorem keepL_len (l : List (List UInt8)) : (keepL l).length ≤ l.length := by
  unfold keepL
  have := List.length_filter_le (fun p : List UInt8 => !p.isEmpty) (l.map trimL)
  simpa using this
def strV (p : List UInt8) : Value := .string ⟨p.toArray⟩
theorem ba_size (l : List UInt8) : (⟨l.toArray⟩ : ByteArray).size = l.length := by simp [ByteArray.size]
theorem trimS_mk (x : List UInt8) : trimS ⟨x.toArray⟩ = ⟨(trimL x).toArray⟩ := rfl

set_option maxRecDepth 100000 in
set_option maxHeartbeats 2000000 in
theorem list_any (xs : List ByteArray) (v : Value) (w : World) (hv : Strs w v xs) (hN : xs.length ≤ 140737488355328) (hlen : (Lib.join (xs.map (·.data.toList)) [44]).length ≤ 1099511627776) :
    Calls Tryd.prog 22 #[v] w fun e w' => ∃ u, e = .returned u ∧ OwnStrs w' w.heap.size u (listS xs) ∧ Below w.heap.size w w' := by
  have h1 : 1 ≤ 5 := by decide
  obtain ⟨i0, hi, hz0, hz1, hz2⟩ := info_parts info9
  refine (callsIn_wide (n := 5)).1 ?_
  refine callsIn_of_wp_marks Tryd.func22 rfl trivial ?_ rfl
  simp only [Tryd.ntmps22, List.size_toArray, List.length_cons, List.length_nil, Nat.reduceAdd, Nat.reduceSub, Array.replicate_succ, Array.replicate_zero, List.push_toArray, List.append_toArray, List.nil_append, List.cons_append]
  have hv1 : Strs (w.alloc (.cells #[.slice none 0 0] 32)) v xs := hv.below ((Below.refl _ w).alloc (Nat.le_refl _) _)
  have hJ := Lib.hid (join_any xs v _ hv1 hN (by omega))
  have bO := Boxed.new w 32 (.slice none 0 0)
  have hB0 : Below w.heap.size w (w.alloc (.cells #[.slice none 0 0] 32)) := (Below.refl _ w).alloc (Nat.le_refl _) _
  clear hv1 hv
  gi_wp2_with (first
    | (refine ⟨trivial, ?_⟩; gi_at_call 68; refine (callsIn_wide.2 hJ.out).mono ?_; rintro e w1 ⟨rfl, hb1⟩)
    | (refine ⟨trivial, ?_⟩; gi_at_call 67; refine (callsIn_wide.2 (splitSeq_box _ _)).mono ?_; rintro e w2 ⟨B, rfl, hsB, hs2, bb1, bb0, bb2, hb2⟩))
  obtain ⟨O, hO⟩ : ∃ O, w.heap.size = O := ⟨_, rfl⟩
  have hs1 : O + 1 ≤ w1.heap.size := by have := hb1.size; simp at this; omega
  have bO1 := box_below bO hb1
  have hBw1 : Below w.heap.size w w1 := hB0.trans (hb1.mono (by simp))
  have bO2 := box_below bO1 hb2
  have hBw2 : Below w.heap.size w w2 := hBw1.trans (hb2.mono hBw1.size)
  obtain ⟨J, hJd⟩ : ∃ J, Lib.join (xs.map (·.data.toList)) [44] = J := ⟨_, rfl⟩
  rw [hJd] at hlen bb0
  have hpl := parts_len J
  clear bO hb1 bO1 hBw1 hb2 hJ hB0
  refine range_box (α := List UInt8) rfl h1 (gf := 115) (lb := #[.pointer (some ⟨B + 1, 0, none⟩), .pointer (some ⟨B, 0, none⟩), .pointer (some ⟨B + 2, 0, none⟩)]) rfl trivial (enters_of Tryd.func115 (by kernel_rfl) rfl)
    (split_iter 4 (B + 1) B (B + 2) (by omega) (by omega) ⟨J.toArray⟩ (by unfold maxLen; rw [ba_size]; omega) w2 bb1.cell bb0.cell bb2.cell bb0.frozen) (by simp; omega) (by omega) (fun _ => rfl)
    (fun pre W => ((∃ u, Boxed W O 32 u ∧ W.ownsRow (B + 3) 9 1 u (keepL pre).length ((keepL pre).map strV) ∧ True) ∧ Below w.heap.size w W) ∧ B + 3 ≤ W.heap.size)
    ?hI ?hIB ?h0
    (fun x => { tmps := #[v, undef, .slice none 0 0, .pointer (some ⟨O, 0, none⟩), strV x, undef, v, .string ⟨J.toArray⟩, .func (.func 115) #[] #[.pointer (some ⟨B + 1, 0, none⟩), .pointer (some ⟨B, 0, none⟩), .pointer (some ⟨B + 2, 0, none⟩)], strV x, undef, undef, undef, undef, undef, undef, undef, undef, undef], defers := [] }) ?assign ?body ?done
  case hI =>
    refine OwnFrom.and (OwnFrom.and (Own.from (holdsRow_own (B + 3) O 32 9 1 (fun pre => (keepL pre).length) (fun pre => (keepL pre).map strV) (fun _ _ => True)) _) (ownFrom_below (Nat.le_refl _) (by omega))) ?_
    exact fun s W W' row h hg hr => Nat.le_trans h hg.size
  case hIB =>
    rintro pre W u ⟨⟨⟨u1, hu, hr, -⟩, hb⟩, hz⟩
    exact ⟨⟨⟨u1, box_far hu B (by omega) _, ownsRow_setCell_below hr (by simp) _, trivial⟩, hb.setCell (by simp; omega) _⟩, by simp [World.setCell]; exact hz⟩
  case h0 => exact ⟨⟨⟨_, by rw [← hO]; exact bO2, World.ownsRow_nil _ _ _ _, trivial⟩, hBw2⟩, by omega⟩
  case assign =>
    intro l x W K hK
    unfold encS
    unfold strV at hK
    gi_wp2
    exact hK
  case body =>
    rintro l pre x r W hx ⟨⟨⟨u, hu, hrow, -⟩, hB⟩, hz⟩ hge
    have hxl : x.length ≤ J.length := hpl.2 x (by rw [hx]; simp)
    have hxs : (⟨x.toArray⟩ : ByteArray).size ≤ maxLen := by unfold maxLen; rw [ba_size]; omega
    have hkl := keepL_len pre
    have hpr : pre.length + 1 ≤ J.length + 1 := by have h1 := hpl.1; rw [hx] at h1; simp at h1; omega
    have hkn : (keepL pre).length ≤ 1099511627776 := by omega
    have HX := Lib.hid hx
    clear hx hkl hpr
    rw [show strV x = .string ⟨x.toArray⟩ from rfl]
    have hsn := Lib.hid (keepL_snoc pre x)
    cases he : (trimL x).isEmpty
    · have he2 : (trimS ⟨x.toArray⟩).toList.isEmpty = false := by rw [Lib.toList_data]; exact he
      have HE := Lib.hid he
      clear he
      gi_wp2_with (first
        | (refine ⟨trivial, ?_⟩; gi_at_call 34; refine (CallsIn.inRound l (callsIn_wide.2 (trim_any _ hxs _))).mono ?_; rintro e W3 ⟨rfl, hb3⟩; have hu3 := box_below hu hb3; have hrow3 := hrow.kept (grown_below hb3) (own_none _); have hc3 := hu3.cell)
        | (gi_at_builtin; refine wpListIn_append_own _ rfl _ _ 32 rfl (B + 3) 9 i0 (.string ⟨#[]⟩) 1 16 Tryd.underlying32 hi hz0 hz1 hz2 rfl (by decide) _ _ _ rfl (hrow3.alloc _) ⟨W3.heap.size, 0, none⟩ 1 1 [.string (trimS ⟨x.toArray⟩)] rfl rfl (cell_one_new _ _ _) (by simp [Value.oneCell']) (by unfold maxLen; omega) (by omega) (by have := hb3.size; simp; omega) ?_; intro v' w1 hown' hgrow _; obtain ⟨g', cap', rfl⟩ := ownsRow_succ hown'; have hv1 : Boxed w1 O 32 u := (hu3.alloc _).kept hgrow (hu3.not_row (by decide) hrow3); have hc1 := hv1.cell; have hf1 := hv1.frozen))
      have hsn2 : keepL (pre ++ [x]) = keepL pre ++ [trimL x] := by rw [hsn.out, HE.out]; rfl
      rw [hsn2]
      have hbk : ∀ b, b < B + 3 → b ≠ O → (w1.setCell ⟨O, 0, none⟩ (.slice (some ⟨g', 0, none⟩) ((keepL pre).length + 1) cap')).heap[b]? = W.heap[b]? := fun b hb hne =>
        (Below.heap_setCell _ _ _ _ hne).trans ((hgrow.block b (by have := hb3.size; simp; omega) (fun e => by have := (hrow3.lt b e.symm).1; omega)).trans ((Below.heap_alloc _ _ _ (by have := hb3.size; omega)).trans (hb3.block b (by omega))))
      have hko : KeepsOthers W (w1.setCell ⟨O, 0, none⟩ (.slice (some ⟨g', 0, none⟩) ((keepL pre).length + 1) cap')) := by
        refine (((KeepsOthers.of_grownBy (grown_below hb3) (fun j o e => by cases e)).trans (KeepsOthers.alloc _ _)).trans (KeepsOthers.of_grownBy hgrow fun j o ej hj => ?_)).trans (KeepsOthers.setCell _ _ _)
        rcases (hrow3.alloc (.cells #[.string (trimS ⟨x.toArray⟩)] 9)).2 with ⟨rfl, _⟩ | ⟨g, cap, cur, rfl, _, hgb, _⟩
        · cases (show (none : Option Nat) = some j from ej)
        · obtain rfl := Option.some.inj (show some g = some j from ej)
          rw [hgb] at hj; cases hj; rfl
      refine ⟨hko.from _, fun b hb => ?_, ⟨⟨_, hv1.set _, ?_, trivial⟩, ?_⟩, ?_⟩
      · refine hbk b ?_ ?_ <;> (simp at hb; omega)
      · have hk := hown'.kept (grownBy_setCell' w1 O (.slice (some ⟨g', 0, none⟩) ((keepL pre).length + 1) cap')) (.inr (hv1.not_row (by decide) hown').symm)
        rw [List.length_append, List.map_append]
        exact hk
      · have hz3 : w.heap.size ≤ W3.heap.size := by have := hb3.size; have := hB.size; omega
        exact ((hB.trans (hb3.mono (by have := hB.size; omega))).trans ((((Below.refl (w.heap.size) W3).alloc (by omega) _).grown hgrow (by simp; omega) (fun j ej => by have := (hrow3.lt j ej).1; omega)).setCell (p := ⟨O, 0, none⟩) (by simp; omega) _))
      · have h1 := hgrow.size
        have h2 := hb3.size
        simp at h1
        simp [World.setCell]
        omega
    · have he2 : (trimS ⟨x.toArray⟩).toList.isEmpty = true := by rw [Lib.toList_data]; exact he
      have HE := Lib.hid he
      clear he
      gi_wp2_with (first
        | (refine ⟨trivial, ?_⟩; gi_at_call 34; refine (CallsIn.inRound l (callsIn_wide.2 (trim_any _ hxs _))).mono ?_; rintro e W3 ⟨rfl, hb3⟩))
      have hsn2 : keepL (pre ++ [x]) = keepL pre := by rw [hsn.out, HE.out]; simp
      rw [hsn2]
      exact ⟨(KeepsOthers.of_grownBy (grown_below hb3) (fun j o e => by cases e)).from _, fun b hb => hb3.block b (by simp at hb; omega), ⟨⟨u, box_below hu hb3, hrow.kept (grown_below hb3) (own_none _), trivial⟩, hB.trans (hb3.mono (by have := hB.size; omega))⟩, by have := hb3.size; omega⟩
  case done =>
    rintro D W hD ⟨⟨⟨u, hu, hrow, -⟩, hB⟩, hz⟩ hK
    have hc := hu.cell
    gi_wp2
    refine ⟨by simp, .inl ⟨_, _, rfl, run_takeDeferred hK, ?_⟩⟩
    refine ⟨_, results_tmp rfl _ _ _, u, rfl, ?_, ?_⟩
    · have h1 := ownsRow_putObj hrow (.deferred none) hK rfl
      have h2 : (keepL (parts J)) = listL (xs.map (·.data.toList)) := by rw [← hJd]; rfl
      rw [h2] at h1
      have h3 : (listS xs).length = (listL (xs.map (·.data.toList))).length := by simp [listS]
      have h4 : (listS xs).map Value.string = (listL (xs.map (·.data.toList))).map strV := by simp [listS, strV]
      unfold OwnStrs
      rw [h3, h4]
      exact own_lower h1 (by omega)
    · have hDl := (Array.getElem?_eq_some_iff.1 hK).1
      rw [hO] at hB
      exact hB.grown (grownBy_putObj' W D (.deferred none)) (by have := hB.size; omega) (fun k e => by cases e; omega)
end Go.Proofs.YtkbjklnkeammiaaDoor.Oct
