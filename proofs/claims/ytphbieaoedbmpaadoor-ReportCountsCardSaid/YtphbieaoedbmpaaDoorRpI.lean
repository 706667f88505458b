/- Report.Names, Lines, Share. -/
import Derived.Test.YtphbieaoedbmpaaDoorRpE
import Derived.Test.YtphbieaoedbmpaaDoorRpG
import Derived.Test.YtphbieaoedbmpaaDoorShelfC
import Derived.Deep.Onto
import Derived.Sort.KeysCollected
namespace Go.Proofs.YtphbieaoedbmpaaDoor.Rp
open Go.RowKit Go.Maps Go.Sort Go.Shelf Go.Proofs.YtphbieaoedbmpaaDoor.Oct
set_option linter.unusedVariables false
/-! ### The library's sorting of a map's keys, at this program -/
theorem sortsStr (m : Nat) : AnyZ.SortsIn Tryd.prog Tryd.sortedStr_ren Fence.wide m :=
  ⟨fun blk off cap ss W hH hblk hsz => callsIn_wide.2 (AnyM.slices_Sort_string Tryd.sortStr blk off cap ss W hH hblk hsz),
   fun p cap W => callsIn_wide.2 (AnyM.slices_Sort_string_none Tryd.sortStr p cap W)⟩
theorem maps_Keys (mb : Option Nat) (W : World) : CallsIn Fence.wide 5 Tryd.prog 23 #[.map mb] W fun e w' => e = .returned (.func (.func 29) #[] #[.pointer (some ⟨W.heap.size, 0, none⟩)]) ∧ w' = W.alloc (.cells #[.map mb] 54) :=
  AnyZ.keys_in Tryd.keysStr Fence.wide 5 trivial rfl mb W
set_option maxHeartbeats 1000000 in
theorem slices_Sorted_keys {H : Type} (b nn : Nat) (D0 : DataW H) (R : Value → Option (DataW H × List MemPlace)) (w : World) (hown : w.ownsMap Tryd.prog 9 R b nn D0) (hmax : Maps.size D0 ≤ maxLen) (hbytes : Maps.size D0 * 16 ≤ 140737488355328) :
    CallsIn Fence.wide 5 Tryd.prog 22 #[.func (.func 29) #[] #[.pointer (some ⟨w.heap.size, 0, none⟩)]] (w.alloc (.cells #[.map (some b)] 54)) fun e w' => ∃ (v : Value) (ss : List (List UInt8)), e = .returned v ∧ ss.Perm (strKeys D0) ∧
      w'.ownsRow (w.alloc (.cells #[.map (some b)] 54)).heap.size 9 1 v ss.length ((ss.mergeSort (fun x y => decide (x ≤ y))).map encStr) ∧ (v = .slice none 0 0 ↔ ss = []) ∧ Below (w.alloc (.cells #[.map (some b)] 54)).heap.size (w.alloc (.cells #[.map (some b)] 54)) w' := by
  have hbl := hown.lt
  have hseq : SeqGives Fence.wide 2 Tryd.prog 29 #[.pointer (some ⟨w.heap.size, 0, none⟩)] encStr (fun ss => ss.Perm (strKeys D0)) (Maps.size D0) (w.alloc (.cells #[.map (some b)] 54)) :=
    AnyZ.keys_gives (ρ := Tryd.keysStr_ren) { Tryd.keysStr with } Fence.wide _ trivial rfl (by omega) w.heap.size b nn D0 _ (by simp) (by simp) (by
      obtain ⟨es, clock, hb, Ft, hs, hD⟩ := hown
      exact ⟨es, clock, (Below.heap_alloc _ _ b hbl).trans hb, Ft, hs, hD⟩)
  exact AnyZ.sorted_in Tryd.sortedStr Fence.wide 5 trivial trivial trivial trivial rfl (by omega) (sortsStr _) (enters_of Tryd.func28 (by kernel_rfl) rfl) 29 #[.pointer (some ⟨w.heap.size, 0, none⟩)] trivial (enters_of Tryd.func29 (by kernel_rfl) rfl) _ _ hmax hbytes _ hseq
/-! ### The names, sorted -/
theorem insN_cons (y : List UInt8) (t : List (List UInt8)) (n : List UInt8) : insN (y :: t) n = if y < n then y :: insN t n else if y = n then y :: t else n :: y :: t := by
  unfold insN
  by_cases h : y < n
  · simp only [List.takeWhile_cons, List.dropWhile_cons, h, decide_true, if_true]
    split <;> rfl
  · simp only [List.takeWhile_cons, List.dropWhile_cons, h, decide_false, if_false, Bool.false_eq_true, List.head?_cons, Option.some.injEq, List.nil_append]
theorem insN_mem (n z : List UInt8) : ∀ L : List (List UInt8), z ∈ insN L n ↔ z = n ∨ z ∈ L
  | [] => by simp [insN]
  | y :: t => by
    rw [insN_cons]
    split
    · rw [List.mem_cons, insN_mem n z t, List.mem_cons]
      constructor
      · rintro (h | h | h)
        · exact .inr (.inl h)
        · exact .inl h
        · exact .inr (.inr h)
      · rintro (h | h | h)
        · exact .inr (.inl h)
        · exact .inl h
        · exact .inr (.inr h)
    · split
      · rename_i h
        subst h
        simp
      · simp
theorem insN_srt (n : List UInt8) : ∀ L : List (List UInt8), L.Pairwise (fun a b => a < b) → (insN L n).Pairwise (fun a b => a < b)
  | [], _ => by simp [insN]
  | y :: t, h => by
    obtain ⟨h1, h2⟩ := List.pairwise_cons.1 h
    rw [insN_cons]
    split
    · rename_i hy
      refine List.pairwise_cons.2 ⟨fun z hz => ?_, insN_srt n t h2⟩
      rcases (insN_mem n z t).1 hz with rfl | hz
      · exact hy
      · exact h1 z hz
    · split
      · exact h
      · rename_i hy hne
        have hny : n < y := by
          by_cases h3 : n < y
          · exact h3
          · exact absurd (List.le_antisymm (List.not_lt.1 h3) (List.not_lt.1 hy)) hne
        refine List.pairwise_cons.2 ⟨fun z hz => ?_, h⟩
        rcases List.mem_cons.1 hz with rfl | hz
        · exact hny
        · exact List.lt_trans hny (h1 z hz)
theorem names_law : ∀ (k : Nat) (xs : List Nt), xs.length = k → (namesN xs).Pairwise (fun a b => a < b) ∧ ∀ z, z ∈ namesN xs ↔ 0 < choN z xs
  | 0, xs, h => by
    obtain rfl := List.length_eq_zero_iff.1 h
    exact ⟨List.Pairwise.nil, fun z => by simp [namesN, choN]⟩
  | k + 1, xs, h => by
    rcases List.eq_nil_or_concat xs with rfl | ⟨ys, y, rfl⟩
    · simp at h
    · rw [List.concat_eq_append] at h ⊢
      obtain ⟨i1, i2⟩ := names_law k ys (by simpa using h)
      rw [names_app]
      by_cases hk : y.kind = 10
      · rw [if_pos hk]
        refine ⟨insN_srt _ _ i1, fun z => ?_⟩
        rw [insN_mem, i2, cho_app]
        by_cases hz : y.name = z
        · rw [if_pos ⟨hk, hz⟩]
          exact ⟨fun _ => by omega, fun _ => .inl hz.symm⟩
        · rw [if_neg (fun e => hz e.2)]
          exact ⟨fun e => by rcases e with e | e; exact absurd e.symm hz; omega, fun e => .inr (by omega)⟩
      · rw [if_neg hk]
        refine ⟨i1, fun z => ?_⟩
        rw [i2, cho_app, if_neg (fun e => hk e.1)]
        omega
theorem names_sorted (xs : List Nt) : (namesN xs).mergeSort leB = namesN xs := by
  refine List.mergeSort_of_pairwise ?_
  refine List.Pairwise.imp ?_ (names_law _ xs rfl).1
  intro a b h
  exact decide_eq_true (List.le_of_lt h)
theorem names_nodup (xs : List Nt) : (namesN xs).Nodup := by
  refine List.Pairwise.imp ?_ (names_law _ xs rfl).1
  intro a b h e
  subst e
  exact List.lt_irrefl _ h
theorem names_len (xs : List Nt) : (namesN xs).length ≤ xs.length := by
  have gen : ∀ (k : Nat) (xs : List Nt), xs.length = k → (namesN xs).length ≤ xs.length := by
    intro k
    induction k with
    | zero => intro xs h; obtain rfl := List.length_eq_zero_iff.1 h; simp [namesN]
    | succ k ih =>
      intro xs h
      rcases List.eq_nil_or_concat xs with rfl | ⟨ys, y, rfl⟩
      · simp at h
      · rw [List.concat_eq_append] at h ⊢
        have := ih ys (by simpa using h)
        rw [names_app, List.length_append]
        split
        · have e : (insN (namesN ys) y.name).length ≤ (namesN ys).length + 1 := by
            unfold insN
            split
            · omega
            · rw [List.length_append, List.length_cons]
              have := congrArg List.length (List.takeWhile_append_dropWhile (p := fun z => decide (z < y.name)) (l := namesN ys))
              rw [List.length_append] at this
              omega
          simp; omega
        · simp; omega
  exact gen _ xs rfl
theorem names_perm {w : World} {rb g : Nat} {ns ms cs : List Nt} {nv : Value} {kb cb : Nat} {DK DC : DataW Unit} (h : RMX w rb g ns ms cs nv kb cb DK DC) : (namesN cs).Perm (strKeys DC) := by
  obtain ⟨es, rfl, hk⟩ := h.chosen.keysOf
  obtain ⟨es', he, hp⟩ := h.chosen.tidy lawS
  obtain rfl : es' = es := by injection he with he; exact he.symm
  refine perm_strKeys hp (fun p hp => ?_) (names_nodup cs) (fun x => ?_)
  · obtain ⟨v, hv⟩ := hk p hp
    obtain ⟨x, _, hx, _⟩ := Maps.keyOf_str Tryd.underlying9 hv
    exact ⟨x, hx⟩
  · rw [(names_law _ cs rfl).2, h.chas x]
    simp
end Go.Proofs.YtphbieaoedbmpaaDoor.Rp
