/- slices.SortedFunc(slices.Values(l), by names). -/
import Derived.Test.YtclngmjfhlindaaMaE
import Derived.Test.YtclngmjfhlindaaShelfB
namespace Go.Proofs.Ytclngmjfhlindaa.Ma
open Go.RowKit Go.Sort Go.Lib Go.Shelf Go.Proofs.Ytclngmjfhlindaa.Sip
set_option linter.unusedVariables false
/-- By names, rising. -/
def Srt (ys : List Ent) : Prop := ys.Pairwise (fun x y => ¬ y.1 < x.1)
theorem srt_unique {xs ys zs : List Ent} (hn : (xs.map Prod.fst).Nodup) (h1 : ys.Perm xs) (h2 : zs.Perm xs) (s1 : Srt ys) (s2 : Srt zs) : ys = zs := by
  refine List.Perm.eq_of_pairwise (le := fun x y : Ent => ¬ y.1 < x.1) ?_ s1 s2 (h1.trans h2.symm)
  intro a b ha hb h3 h4
  have e : a.1 = b.1 := List.le_antisymm (List.not_lt.1 h3) (List.not_lt.1 h4)
  have ha' := h1.mem_iff.1 ha
  have hb' := h2.mem_iff.1 hb
  obtain ⟨i, hi, rfl⟩ := List.getElem_of_mem ha'
  obtain ⟨j, hj, rfl⟩ := List.getElem_of_mem hb'
  have hp := List.pairwise_iff_getElem.1 hn
  rcases Nat.lt_trichotomy i j with h | h | h
  · exact absurd (by rw [List.getElem_map, List.getElem_map]; exact e) (hp i j (by simpa using hi) (by simpa using hj) h)
  · subst h; rfl
  · exact absurd (by rw [List.getElem_map, List.getElem_map]; exact e.symm) (hp j i (by simpa using hj) (by simpa using hi) h)
theorem flat_get : ∀ (xs : List Ent) (i : Nat) (h : i < xs.length), (xs.flatMap entV)[i * 2]? = some (.string (mk xs[i].1)) ∧ (xs.flatMap entV)[i * 2 + 1]? = some (.int .i64 xs[i].2)
  | [], i, h => by simp at h
  | x :: xs, 0, h => ⟨rfl, rfl⟩
  | x :: xs, i + 1, h => by
    have := flat_get xs i (by simpa using h)
    rw [show (i + 1) * 2 = i * 2 + 2 by omega]
    exact this
theorem flat_len (xs : List Ent) : (xs.flatMap entV).length = xs.length * 2 := by
  induction xs with
  | nil => rfl
  | cons x xs ih => rw [List.flatMap_cons, List.length_append, ih]; simp [entV]; omega
theorem entV_get (x : Ent) : (entV x)[0]! = .string (mk x.1) ∧ (entV x)[1]! = .int .i64 x.2 := ⟨rfl, rfl⟩
theorem row_holds {w : World} {base g cap : Nat} {e : TypeId} {xs : List Ent} (h : w.ownsRow base e 2 (.slice (some ⟨g, 0, none⟩) xs.length cap) xs.length (xs.flatMap entV)) : HoldsK entV 2 w g 0 xs.toArray ∧ base ≤ g ∧ g < w.heap.size := by
  rcases h.2 with ⟨h0, _⟩ | ⟨g', cap', cur, hv, hb, hg, h1, h2, h3, h4⟩
  · cases h0
  · cases hv
    refine ⟨?_, hb, (Array.getElem?_eq_some_iff.1 hg).1⟩
    intro t ht
    rw [size_flatK] at ht
    have ht' : t < xs.length * 2 := by simpa using ht
    refine ⟨?_, by simp [World.frozen?, hg]⟩
    rw [Nat.zero_add, cell_of_row _ g t _ _ _ hg, get_flatK _ _ _ _ ht, ← Array.getElem?_toList]
    have hx : t / 2 < xs.length := by omega
    have e1 : xs.toArray[t / 2]! = xs[t / 2] := by rw [getElem!_pos _ _ (by simpa using hx)]; simp
    have e2 : cur.toList[t]? = (xs.flatMap entV)[t]? := by rw [← h4, List.getElem?_take_of_lt ht']
    rw [e1, e2]
    obtain ⟨f1, f2⟩ := flat_get xs (t / 2) hx
    obtain ⟨v1, v2⟩ := entV_get xs[t / 2]
    rcases Nat.mod_two_eq_zero_or_one t with hm | hm
    · rw [hm, v1]
      show (xs.flatMap entV)[t]? = some (Value.string (mk xs[t / 2].1))
      rw [← f1]; congr 1; omega
    · rw [hm, v2]
      show (xs.flatMap entV)[t]? = some (Value.int .i64 xs[t / 2].2)
      rw [← f2]; congr 1; omega
theorem grownBy_sort {w : World} {g n : Nat} {os : Array Obj} (d : Array Ent) : w.grownBy (sortWorldK entV 2 w g 0 n d os) (some g) := by
  refine ⟨rfl, rfl, rfl, by simp [sortWorldK, putRowK], fun k hk hne => ?_⟩
  unfold sortWorldK putRowK
  rw [heap_grow_old _ _ (by simpa using hk)]
  have : g ≠ k := fun e => hne (by rw [e])
  simp [putRow, mapBlock, Sort.ahead, Array.getElem?_modify, this]
theorem eg_closure : ∀ args w, (callFunc 28 args).run Try.prog w = .ok (.enter 28 args) w := enters_of Try.func28 (by kernel_rfl) rfl
theorem sortFunc_any (base : Nat) (xs : List Ent) (g cap : Nat) (w : World) (h : w.ownsRow base 54 2 (.slice (some ⟨g, 0, none⟩) xs.length cap) xs.length (xs.flatMap entV)) (hN : xs.length ≤ 1000000000000) :
    Calls Try.prog 40 #[.slice (some ⟨g, 0, none⟩) xs.length cap, .func (.func 28) #[] #[]] w fun e w' => e = .returned (.tuple #[]) ∧ ∃ ys : List Ent, ys.Perm xs ∧ Srt ys ∧ Ents w' (.slice (some ⟨g, 0, none⟩) xs.length cap) ys ∧ Below base w w' := by
  obtain ⟨hH, hbg, hglt⟩ := row_holds h
  have hcap : xs.length ≤ cap := by
    rcases h.2 with ⟨h0, _⟩ | ⟨g', cap', cur, hv, _, _, h1, _⟩
    · cases h0
    · cases hv; exact h1
  have hcon := AnyQ.slices_SortFunc Try.sortEnt 2 Try.isAgg54 Try.sizeOf54 entV (fun _ => rfl) (fun x v hv => by simp [entV] at hv; rcases hv with rfl | rfl <;> rfl) cfE swoE 28 #[] g 0 cap xs.toArray w eg_closure (cmpLaysE g 0 xs.toArray.size w) hH hglt (by simp; omega)
  have hcon2 : Calls Try.prog 40 #[.slice (some ⟨g, 0, none⟩) xs.length cap, .func (.func 28) #[] #[]] w _ := hcon
  refine hcon2.mono ?_
  rintro e w' ⟨he, d', n, os, ⟨hsz, _, hperm⟩, hsort, rfl⟩
  refine ⟨he, d'.toList, ?_, ?_, ?_, (Below.refl _ w).grown (grownBy_sort d') (by omega) (fun k e => by cases e; exact hbg)⟩
  · have e1 : d'.extract 0 xs.toArray.size = d' := by rw [← hsz]; exact Array.extract_size
    rw [e1, Array.extract_size] at hperm
    exact hperm
  · unfold Srt
    rw [List.pairwise_iff_getElem]
    intro i j hi hj hij
    have hi' : i < d'.size := by simpa using hi
    have hj' : j < d'.size := by simpa using hj
    have := hsort i j (Nat.zero_le _) hij (by rw [← hsz]; exact hj')
    rw [ltOf_cfE, decide_eq_false_iff_not, getElem!_pos d' i hi', getElem!_pos d' j hj'] at this
    simpa using this
  · have hl : d'.toList.length = xs.length := by simpa using hsz
    have hH2 : HoldsK entV 2 (sortWorldK entV 2 w g 0 n d' os) g 0 d' :=
      holdsK_grow entV 2 _ os g 0 d' (by simp [putRowK]; exact hglt) (holdsK_putRowK entV 2 _ g 0 xs.toArray d' (holdsK_ahead entV 2 w n g 0 _ hH) hsz)
    refine ⟨some ⟨g, 0, none⟩, cap, by rw [hl], by rw [hl]; exact hcap, fun hp => ⟨g, 0, rfl, ?_, ?_⟩⟩
    · have := (grownBy_sort (n := n) (os := os) (g := g) (w := w) d').size
      omega
    · intro j x hj
      have hjl : j < d'.size := by have := (List.getElem?_eq_some_iff.1 hj).1; simpa using this
      have ex : d'[j]! = x := by
        rw [getElem!_pos d' j hjl]
        have := (List.getElem?_eq_some_iff.1 hj).2
        simpa using this
      have c0 := (hH2.cell hjl (c := 0) (by omega)).1
      have c1 := (hH2.cell hjl (c := 1) (by omega)).1
      rw [ex] at c0 c1
      exact ⟨c0, c1⟩
theorem sortRow_any (base : Nat) (xs : List Ent) (v : Value) (w : World) (h : w.ownsRow base 54 2 v xs.length (xs.flatMap entV)) (hN : xs.length ≤ 1000000000000) :
    Calls Try.prog 40 #[v, .func (.func 28) #[] #[]] w fun e w' => e = .returned (.tuple #[]) ∧ ∃ ys : List Ent, ys.Perm xs ∧ Srt ys ∧ Ents w' v ys ∧ Below base w w' := by
  have h' := h
  rcases h.2 with ⟨rfl, h0⟩ | ⟨g, cap, cur, rfl, hb, hg, h1, h2, h3, h4⟩
  · have hcon : Calls Try.prog 40 #[.slice none 0 0, .func (.func 28) #[] #[]] w _ := AnyF.slices_SortFunc_none Try.sortEnt none 0 (.func (.func 28) #[] #[]) w
    have hx : xs = [] := List.eq_nil_of_length_eq_zero h0
    subst hx
    refine hcon.mono ?_
    rintro e w' ⟨he, rfl⟩
    exact ⟨he, [], List.Perm.refl _, List.Pairwise.nil, ⟨none, 0, rfl, Nat.le_refl _, fun hp => absurd hp (by simp)⟩, Below.refl _ _⟩
  · exact sortFunc_any base xs g cap w h' hN
theorem collect_any (Bs : Nat) (sv : Value) (xs : List Ent) (hN : xs.length ≤ 1000000000000) (w0 w : World) (hv : Ents w0 sv xs) (hBs : Bs < w.heap.size) (hb0 : Below w0.heap.size w0 w) (hc : w.cell? ⟨Bs, 0, none⟩ = some sv) :
    Calls Try.prog 39 #[.func (.func 41) #[] #[.pointer (some ⟨Bs, 0, none⟩)]] w fun e W' => ∃ v, e = .returned v ∧ W'.ownsRow w.heap.size 54 2 v xs.length (xs.flatMap entV) ∧ Below w.heap.size w W' := by
  have hcon := (callsIn_wide (n := 10)).1 (appendSeq_in Fence.wide 10 trivial trivial rfl (by decide) Bs sv xs hN w0 w hv hBs hb0 hc)
  go_enter Try.func39, Try.ntmps39
  go_wp2_with (go_at_call 51; refine hcon.mono ?_; rintro e w' ⟨v, rfl, hown, hb⟩)
  go_ret
  exact ⟨v, rfl, hown, hb⟩
theorem valuesF_any (a : Option Addr) (len cap : Nat) (w : World) :
    Calls Try.prog 27 #[.slice a len cap] w fun e w' => e = .returned (.func (.func 41) #[] #[.pointer (some ⟨w.heap.size, 0, none⟩)]) ∧ w' = w.alloc (.cells #[.slice a len cap] 32) :=
  (callsIn_wide (n := 10)).1 (values_in Fence.wide 10 trivial rfl a len cap w)
theorem sortedFunc_any (Bs : Nat) (sv : Value) (xs : List Ent) (hN : xs.length ≤ 1000000000000) (w0 w : World) (hv : Ents w0 sv xs) (hBs : Bs < w.heap.size) (hb0 : Below w0.heap.size w0 w) (hc : w.cell? ⟨Bs, 0, none⟩ = some sv) :
    Calls Try.prog 26 #[.func (.func 41) #[] #[.pointer (some ⟨Bs, 0, none⟩)], .func (.func 28) #[] #[]] w fun e w' => ∃ (v : Value) (ys : List Ent), e = .returned v ∧ ys.Perm xs ∧ Srt ys ∧ Ents w' v ys ∧ Below w.heap.size w w' := by
  have d1 := collect_any Bs sv xs hN w0 w hv hBs hb0 hc
  have d2 := fun v W h => sortRow_any w.heap.size xs v W h hN
  go_enter Try.func26, Try.ntmps26
  go_wp2_with (first
    | (go_at_call 39; refine d1.mono ?_; rintro e w1 ⟨v, rfl, hown, hb1⟩)
    | (go_at_call 40; refine (d2 v w1 hown).mono ?_; rintro e w2 ⟨rfl, ys, hp, hs, he, hb2⟩))
  go_ret
  exact ⟨v, ys, rfl, hp, hs, he, hb1.trans hb2⟩
end Go.Proofs.Ytclngmjfhlindaa.Ma
