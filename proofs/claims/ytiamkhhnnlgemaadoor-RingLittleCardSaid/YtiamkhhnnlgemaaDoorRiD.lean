/- slices.SortFunc at points (printed by genD.py). -/
import Derived.Test.YtiamkhhnnlgemaaDoorRiC
namespace Go.Proofs.YtiamkhhnnlgemaaDoor.Ri
open Go.RowKit Go.Sort Go.Lib Go.Shelf Go.Proofs.YtiamkhhnnlgemaaDoor.Sip
set_option linter.unusedVariables false
/-- A slice value reads as these points. -/
def Pts (w : World) (v : Value) (ps : List Pt) : Prop :=
  ∃ A c, v = .slice A ps.length c ∧ ps.length ≤ c ∧ (0 < ps.length → ∃ b o, A = some ⟨b, o, none⟩ ∧ b < w.heap.size ∧ ∀ j p, ps[j]? = some p → w.cell? ⟨b, o + j * 2, none⟩ = some (.int .u64 p.1) ∧ w.cell? ⟨b, o + j * 2 + 1, none⟩ = some (.string (mk p.2)))
theorem Pts.below {w w' : World} {v : Value} {ps : List Pt} (h : Pts w v ps) (hb : Below w.heap.size w w') : Pts w' v ps := by
  obtain ⟨A, c, hv, hc, hr⟩ := h
  refine ⟨A, c, hv, hc, fun hp => ?_⟩
  obtain ⟨b, o, hA, hlt, hx⟩ := hr hp
  exact ⟨b, o, hA, Nat.lt_of_lt_of_le hlt hb.size, fun j x hj => ⟨(hb.cell (p := ⟨b, o + j * 2, none⟩) hlt).trans (hx j x hj).1, (hb.cell (p := ⟨b, o + j * 2 + 1, none⟩) hlt).trans (hx j x hj).2⟩⟩
theorem flat_getP : ∀ (xs : List Pt) (i : Nat) (h : i < xs.length), (xs.flatMap ptV)[i * 2]? = some (.int .u64 xs[i].1) ∧ (xs.flatMap ptV)[i * 2 + 1]? = some (.string (mk xs[i].2))
  | [], i, h => by simp at h
  | x :: xs, 0, h => ⟨rfl, rfl⟩
  | x :: xs, i + 1, h => by
    have := flat_getP xs i (by simpa using h)
    rw [show (i + 1) * 2 = i * 2 + 2 by omega]
    exact this
theorem ptV_get (x : Pt) : (ptV x)[0]! = .int .u64 x.1 ∧ (ptV x)[1]! = .string (mk x.2) := ⟨rfl, rfl⟩
theorem row_holdsP {w : World} {base g cap : Nat} {e : TypeId} {xs : List Pt} (h : w.ownsRow base e 2 (.slice (some ⟨g, 0, none⟩) xs.length cap) xs.length (xs.flatMap ptV)) : HoldsK ptV 2 w g 0 xs.toArray ∧ base ≤ g ∧ g < w.heap.size := by
  rcases h.2 with ⟨h0, _⟩ | ⟨g', cap', cur, hv, hb, hg, h1, h2, h3, h4⟩
  · cases h0
  · cases hv
    refine ⟨?_, hb, (Array.getElem?_eq_some_iff.1 hg).1⟩
    intro t ht
    rw [size_flatK] at ht
    have ht' : t < xs.length * 2 := by simpa using ht
    refine ⟨?_, by simp [World.frozen?, hg]⟩
    rw [Nat.zero_add, cell_of_row _ g t _ _ _ hg, get_flatK _ _ _ _ ht, ← Array.getElem?_toList]
    have hx : t / 2 < xs.length := by omega
    have e1 : xs.toArray[t / 2]! = xs[t / 2] := by rw [getElem!_pos _ _ (by simpa using hx)]; simp
    have e2 : cur.toList[t]? = (xs.flatMap ptV)[t]? := by rw [← h4, List.getElem?_take_of_lt ht']
    rw [e1, e2]
    obtain ⟨f1, f2⟩ := flat_getP xs (t / 2) hx
    obtain ⟨v1, v2⟩ := ptV_get xs[t / 2]
    rcases Nat.mod_two_eq_zero_or_one t with hm | hm
    · rw [hm, v1]
      show (xs.flatMap ptV)[t]? = some (Value.int .u64 xs[t / 2].1)
      rw [← f1]; congr 1; omega
    · rw [hm, v2]
      show (xs.flatMap ptV)[t]? = some (Value.string (mk xs[t / 2].2))
      rw [← f2]; congr 1; omega
theorem grownBy_sortP {w : World} {g n : Nat} {os : Array Obj} (d : Array Pt) : w.grownBy (sortWorldK ptV 2 w g 0 n d os) (some g) := by
  refine ⟨rfl, rfl, rfl, by simp [sortWorldK, putRowK], fun k hk hne => ?_⟩
  unfold sortWorldK putRowK
  rw [heap_grow_old _ _ (by simpa using hk)]
  have : g ≠ k := fun e => hne (by rw [e])
  simp [putRow, mapBlock, Sort.ahead, Array.getElem?_modify, this]
theorem sortFuncP_any (base : Nat) (xs : List Pt) (g cap : Nat) (w : World) (h : w.ownsRow base 67 2 (.slice (some ⟨g, 0, none⟩) xs.length cap) xs.length (xs.flatMap ptV)) (hN : xs.length ≤ 1000000000000) :
    Calls Tryd.prog 25 #[.slice (some ⟨g, 0, none⟩) xs.length cap, .func (.func 26) #[] #[]] w fun e w' => e = .returned (.tuple #[]) ∧ ∃ ys : List Pt, ys.Perm xs ∧ SrtP ys ∧ Pts w' (.slice (some ⟨g, 0, none⟩) xs.length cap) ys ∧ Below base w w' := by
  obtain ⟨hH, hbg, hglt⟩ := row_holdsP h
  have hcap : xs.length ≤ cap := by
    rcases h.2 with ⟨h0, _⟩ | ⟨g', cap', cur, hv, _, _, h1, _⟩
    · cases h0
    · cases hv; exact h1
  have hcon := AnyQ.slices_SortFunc Tryd.sortEnt 2 Tryd.isAgg67 Tryd.sizeOf67 ptV (fun _ => rfl) (fun x v hv => by simp [ptV] at hv; rcases hv with rfl | rfl <;> rfl) cfP swoP 26 #[] g 0 cap xs.toArray w eg_cmp (cmpLaysP g 0 xs.toArray.size w) hH hglt (by simp; omega)
  have hcon2 : Calls Tryd.prog 25 #[.slice (some ⟨g, 0, none⟩) xs.length cap, .func (.func 26) #[] #[]] w _ := hcon
  refine hcon2.mono ?_
  rintro e w' ⟨he, d', n, os, ⟨hsz, _, hperm⟩, hsort, rfl⟩
  refine ⟨he, d'.toList, ?_, ?_, ?_, (Below.refl _ w).grown (grownBy_sortP d') (by omega) (fun k e => by cases e; exact hbg)⟩
  · have e1 : d'.extract 0 xs.toArray.size = d' := by rw [← hsz]; exact Array.extract_size
    rw [e1, Array.extract_size] at hperm
    exact hperm
  · unfold SrtP
    rw [List.pairwise_iff_getElem]
    intro i j hi hj hij
    have hi' : i < d'.size := by simpa using hi
    have hj' : j < d'.size := by simpa using hj
    have := hsort i j (Nat.zero_le _) hij (by rw [← hsz]; exact hj')
    rw [ltOf_cfP, decide_eq_false_iff_not, getElem!_pos d' i hi', getElem!_pos d' j hj'] at this
    simpa using this
  · have hl : d'.toList.length = xs.length := by simpa using hsz
    have hH2 : HoldsK ptV 2 (sortWorldK ptV 2 w g 0 n d' os) g 0 d' :=
      holdsK_grow ptV 2 _ os g 0 d' (by simp [putRowK]; exact hglt) (holdsK_putRowK ptV 2 _ g 0 xs.toArray d' (holdsK_ahead ptV 2 w n g 0 _ hH) hsz)
    refine ⟨some ⟨g, 0, none⟩, cap, by rw [hl], by rw [hl]; exact hcap, fun hp => ⟨g, 0, rfl, ?_, ?_⟩⟩
    · have := (grownBy_sortP (n := n) (os := os) (g := g) (w := w) d').size
      omega
    · intro j x hj
      have hjl : j < d'.size := by have := (List.getElem?_eq_some_iff.1 hj).1; simpa using this
      have ex : d'[j]! = x := by
        rw [getElem!_pos d' j hjl]
        have := (List.getElem?_eq_some_iff.1 hj).2
        simpa using this
      have c0 := (hH2.cell hjl (c := 0) (by omega)).1
      have c1 := (hH2.cell hjl (c := 1) (by omega)).1
      rw [ex] at c0 c1
      exact ⟨c0, c1⟩
theorem sortRowP_any (base : Nat) (xs : List Pt) (v : Value) (w : World) (h : w.ownsRow base 67 2 v xs.length (xs.flatMap ptV)) (hN : xs.length ≤ 1000000000000) :
    Calls Tryd.prog 25 #[v, .func (.func 26) #[] #[]] w fun e w' => e = .returned (.tuple #[]) ∧ ∃ ys : List Pt, ys.Perm xs ∧ SrtP ys ∧ Pts w' v ys ∧ Below base w w' := by
  have h' := h
  rcases h.2 with ⟨rfl, h0⟩ | ⟨g, cap, cur, rfl, hb, hg, h1, h2, h3, h4⟩
  · have hcon : Calls Tryd.prog 25 #[.slice none 0 0, .func (.func 26) #[] #[]] w _ := AnyF.slices_SortFunc_none Tryd.sortEnt none 0 (.func (.func 26) #[] #[]) w
    have hx : xs = [] := List.eq_nil_of_length_eq_zero h0
    subst hx
    refine hcon.mono ?_
    rintro e w' ⟨he, rfl⟩
    exact ⟨he, [], List.Perm.refl _, List.Pairwise.nil, ⟨none, 0, rfl, Nat.le_refl _, fun hp => absurd hp (by simp)⟩, Below.refl _ _⟩
  · exact sortFuncP_any base xs g cap w h' hN
theorem row_pts {w : World} {base : Nat} {e : TypeId} {v : Value} {xs : List Pt} (h : w.ownsRow base e 2 v xs.length (xs.flatMap ptV)) : Pts w v xs := by
  have h' := h
  rcases h.2 with ⟨rfl, h0⟩ | ⟨g, cap, cur, rfl, hb, hg, h1, h2, h3, h4⟩
  · exact ⟨none, 0, by rw [h0], by omega, fun hp => by omega⟩
  · refine ⟨_, cap, rfl, h1, fun _ => ⟨g, 0, rfl, (Array.getElem?_eq_some_iff.1 hg).1, fun j x hj => ?_⟩⟩
    have hj2 : j < xs.length := (List.getElem?_eq_some_iff.1 hj).1
    have hx : xs[j] = x := (List.getElem?_eq_some_iff.1 hj).2
    obtain ⟨f1, f2⟩ := flat_getP xs j hj2
    rw [hx] at f1 f2
    exact ⟨by rw [Nat.zero_add, h'.cellAt (j * 2) (by omega)]; exact f1, by rw [Nat.zero_add, h'.cellAt (j * 2 + 1) (by omega)]; exact f2⟩
end Go.Proofs.YtiamkhhnnlgemaaDoor.Ri
