/- Fields in memory; stewardlaw06.Few, stewardlaw06.Own. -/
import Derived.Test.YthedoophopilgaaGreatDoorRwP
import Derived.Deep.RegionHeld3
import Derived.Deep.AppendLies
import Derived.Deep.DrawnRows
import Derived.Deep.RegionLaw
import Derived.IntWalk
namespace Go.Proofs.YthedoophopilgaaGreatDoor.Rw
open Go.RowKit Go.Proofs.YthedoophopilgaaGreatDoor.Oct
set_option linter.unusedVariables false
def fldV (x : Fld) : List Value := [.string x.1, .string x.2]
/-- A slice value reads as these fields. -/
def Flds (w : World) (v : Value) (xs : List Fld) : Prop :=
  ∃ A c, v = .slice A xs.length c ∧ xs.length ≤ c ∧ (0 < xs.length → ∃ b o, A = some ⟨b, o, none⟩ ∧ b < w.heap.size ∧ ∀ j x, xs[j]? = some x → w.cell? ⟨b, o + j * 2, none⟩ = some (.string x.1) ∧ w.cell? ⟨b, o + j * 2 + 1, none⟩ = some (.string x.2))
theorem Flds.below {w w' : World} {v : Value} {xs : List Fld} (h : Flds w v xs) (hb : Below w.heap.size w w') : Flds w' v xs := by
  obtain ⟨A, c, hv, hc, hr⟩ := h
  refine ⟨A, c, hv, hc, fun hp => ?_⟩
  obtain ⟨b, o, hA, hlt, hx⟩ := hr hp
  exact ⟨b, o, hA, Nat.lt_of_lt_of_le hlt hb.size, fun j x hj => ⟨(hb.cell (p := ⟨b, o + j * 2, none⟩) hlt).trans (hx j x hj).1, (hb.cell (p := ⟨b, o + j * 2 + 1, none⟩) hlt).trans (hx j x hj).2⟩⟩
theorem flat_get : ∀ (xs : List Fld) (i : Nat) (h : i < xs.length), (xs.flatMap fldV)[i * 2]? = some (.string xs[i].1) ∧ (xs.flatMap fldV)[i * 2 + 1]? = some (.string xs[i].2)
  | [], i, h => by simp at h
  | x :: xs, 0, h => ⟨rfl, rfl⟩
  | x :: xs, i + 1, h => by
    have := flat_get xs i (by simpa using h)
    rw [show (i + 1) * 2 = i * 2 + 2 by omega]
    exact this
theorem flat_len (xs : List Fld) : (xs.flatMap fldV).length = xs.length * 2 := by
  induction xs with
  | nil => rfl
  | cons x xs ih => rw [List.flatMap_cons, List.length_append, ih]; simp [fldV]; omega
theorem flat_one (L : List Fld) : ∀ u ∈ L.flatMap fldV, u.oneCell' = true := by
  intro u hu
  obtain ⟨x, _, h⟩ := List.mem_flatMap.1 hu
  simp [fldV] at h
  rcases h with rfl | rfl <;> rfl
/-- Fields, in a row of the call's own. -/
def OwnF (e : TypeId) (w : World) (base : Nat) (v : Value) (xs : List Fld) : Prop := w.ownsRow base e 2 v xs.length (xs.flatMap fldV)
theorem OwnF.flds {e : TypeId} {w : World} {base : Nat} {v : Value} {xs : List Fld} (h : OwnF e w base v xs) : Flds w v xs := by
  have h' : w.ownsRow base e 2 v xs.length (xs.flatMap fldV) := h
  rcases h.2 with ⟨rfl, h0⟩ | ⟨g, cap, cur, rfl, hb, hg, h1, h2, h3, h4⟩
  · exact ⟨none, 0, by rw [h0], by omega, fun hp => by omega⟩
  · refine ⟨_, cap, rfl, h1, fun _ => ⟨g, 0, rfl, (Array.getElem?_eq_some_iff.1 hg).1, fun j x hj => ?_⟩⟩
    have hj2 : j < xs.length := (List.getElem?_eq_some_iff.1 hj).1
    have hx : xs[j] = x := (List.getElem?_eq_some_iff.1 hj).2
    obtain ⟨f1, f2⟩ := flat_get xs j hj2
    rw [hx] at f1 f2
    exact ⟨by rw [Nat.zero_add, h'.cellAt (j * 2) (by omega)]; exact f1, by rw [Nat.zero_add, h'.cellAt (j * 2 + 1) (by omega)]; exact f2⟩
theorem row_slice {w : World} {base size n : Nat} {e : TypeId} {v : Value} {xs : List Value} (h : w.ownsRow base e size v n xs) : ∃ A c, v = .slice A n c := by
  rcases h.2 with ⟨rfl, h0⟩ | ⟨g, cap, cur, rfl, _⟩
  · exact ⟨none, 0, by rw [h0]⟩
  · exact ⟨_, _, rfl⟩
def fewF (n : Nat) (xs : List Fld) : List Fld := (xs.take n).map (fun x => (cutS 20 x.1, cutS 40 x.2))
theorem few_mem {n : Nat} {xs : List Fld} {x : Fld} (h : x ∈ fewF n xs) : x.1.size ≤ 20 ∧ x.2.size ≤ 40 := by
  obtain ⟨y, _, rfl⟩ := List.mem_map.1 h
  exact ⟨cutS_size _ _, cutS_size _ _⟩
theorem few_len (n : Nat) (xs : List Fld) : (fewF n xs).length ≤ n := by unfold fewF; rw [List.length_map, List.length_take]; omega
theorem infoR : (Tryz.prog.info? 64).map (fun i => (i.zero, i.size, i.bytes)) = some (some (.agg #[.string ⟨#[]⟩, .string ⟨#[]⟩]), 2, 32) := by kernel_rfl
theorem infoF : (Tryz.prog.info? 41).map (fun i => (i.zero, i.size, i.bytes)) = some (some (.agg #[.string ⟨#[]⟩, .string ⟨#[]⟩]), 2, 32) := by kernel_rfl
theorem cut20 (s : ByteArray) (w : World) : Calls Tryz.prog 6 #[.string s, .int .i64 20] w fun e w' => e = .returned (.string (cutS 20 s)) ∧ w' = w := (cut_any s 20 w).mono fun _ _ ⟨h1, h2⟩ => ⟨h1, h2.symm⟩
theorem cut40 (s : ByteArray) (w : World) : Calls Tryz.prog 6 #[.string s, .int .i64 40] w fun e w' => e = .returned (.string (cutS 40 s)) ∧ w' = w := (cut_any s 40 w).mono fun _ _ ⟨h1, h2⟩ => ⟨h1, h2.symm⟩
set_option maxRecDepth 100000 in
set_option maxHeartbeats 4000000 in
theorem few_any (n : Nat) (hn6 : n ≤ 12) (xs : List Fld) (v : Value) (w : World) (hv : Flds w v xs) (hN : xs.length ≤ 140737488355328) :
    Calls Tryz.prog 13 #[v, .int .i64 n] w fun e w' => ∃ u, e = .returned u ∧ OwnF 64 w' w.heap.size u (fewF n xs) ∧ Below w.heap.size w w' := by
  obtain ⟨i0, hi, hz0, hz1, hz2⟩ := info_parts infoR
  obtain ⟨A, c, rfl, hc, hr⟩ := hv
  have hb0 : Below w.heap.size w w := Below.refl _ _
  have ho0 : w.ownsRow w.heap.size 64 2 (.slice none 0 0) 0 [] := World.ownsRow_nil _ _ _ _
  unfold OwnF
  go_enter Tryz.func13, Tryz.ntmps13
  go_wp2
  generalize hg : w.heap.size = g at *
  go_loopw [5, 6] (fun u i wr => ∃ (k : Nat) (u0 : Value), u0 = u ∧ k ≤ xs.length ∧ k ≤ n ∧ i = .int .i64 k ∧ wr.ownsRow g 64 2 u k ((fewF k xs).flatMap fldV) ∧ Below g w wr) (fun _ i _ => n - (intOf i).toNat)
  case atStart => exact ⟨0, _, rfl, Nat.zero_le _, Nat.zero_le _, rfl, ho0, hb0⟩
  case round =>
    obtain ⟨k, u, rfl, hk, hkn, rfl, hown, hb⟩ := hrel
    by_cases c1 : k < xs.length
    · by_cases c2 : k < n
      · obtain ⟨b, o, rfl, hlt, hx⟩ := hr (by omega)
        have hx0 := hx k xs[k] (by simp [c1])
        have hc0 := (hb.cell (p := ⟨b, o + k * 2, none⟩) (by omega)).trans hx0.1
        have hc1 := (hb.cell (p := ⟨b, o + k * 2 + 1, none⟩) (by omega)).trans hx0.2
        have hnx := Lib.hid (show (fewF (k + 1) xs).flatMap fldV = (fewF k xs).flatMap fldV ++ [.string (cutS 20 xs[k].1), .string (cutS 40 xs[k].2)] by unfold fewF; rw [List.take_succ_eq_append_getElem c1, List.map_append, List.flatMap_append]; rfl)
        have hgw : g ≤ wr.heap.size := by have := hb.size; omega
        have d1 := cut20 xs[k].1
        have d2 := cut40 xs[k].2
        generalize cutS 20 xs[k].1 = n1 at *
        generalize cutS 40 xs[k].2 = n2 at *
        generalize xs[k] = x at *
        clear hx0 hx
        have hne : u.ownBlock ≠ some b := fun e => by have := (hown.lt b e).1; omega
        go_wp2
        go_region_held3 (fun w' => w'.cell? ⟨b, o + k * 2, none⟩ = some (.string x.1) ∧ w'.cell? ⟨b, o + k * 2 + 1, none⟩ = some (.string x.2))
          (first
            | go_keep
            | (go_split_ands
               refine ⟨?_, ?_⟩
               · (rw [hgrow.cell_far _ (by simp; omega) (Ne.symm hne)]; assumption)
               · (rw [hgrow.cell_far _ (by simp; omega) (Ne.symm hne)]; assumption)))
          (first
            | (go_at_call 6; first | ((with_reducible refine (d1 _).mono ?_); rintro e w1' ⟨rfl, rfl⟩) | ((with_reducible refine (d2 _).mono ?_); rintro e w1' ⟨rfl, rfl⟩))
            | (refine step_append_lies _ (by rfl) _ _ _ (by rfl) g 64 i0 _ 2 32 Tryz.underlying22 hi hz0 hz1 hz2 rfl (by omega) u k _ (by rfl) ((hown.alloc _).drew)
                ⟨wr.heap.size, 0, none⟩ 1 1 [.string n1, .string n2] (by rfl) (by rfl) (World.news_of_block (cs := #[.string n1, .string n2]) (t := 64) (fr := (0, 0)) (heap_alloc_new wr _)) (by simp [Value.oneCell'])
                (by omega) (by unfold maxLen; omega) (by omega) (by simp; omega) (wr.heap.size + 1) (by simp) ?_; intro gg cap w1 hown1 hgrow hat hlt1))
        go_wp2
        go_roundw
        case rel =>
          refine ⟨k + 1, _, rfl, by omega, by omega, by go_num, by rw [hnx.out]; exact hown1, ?_⟩
          exact grow_low ((hb.alloc hgw _).drew) (by simp; omega) hgrow (fun b e => (hown.lt b e).1)
        case measure => simp [intOf]; omega
      · have hk : k = n := by omega
        subst hk
        go_wp2
        go_ret
        refine ⟨u, rfl, ?_, ?_⟩ <;> (try rw [hg])
        · rw [show (fewF k xs).length = k by unfold fewF; simp; omega]; exact hown
        · exact hb
    · have hk : k = xs.length := by omega
      have hnx := Lib.hid (show fewF k xs = fewF n xs by unfold fewF; rw [List.take_of_length_le (by omega), List.take_of_length_le (by omega)])
      subst hk
      go_wp2
      go_ret
      refine ⟨u, rfl, ?_, ?_⟩ <;> (try rw [hg])
      · rw [← hnx.out, show (fewF xs.length xs).length = xs.length by unfold fewF; simp]; exact hown
      · exact hb
set_option maxRecDepth 100000 in
set_option maxHeartbeats 4000000 in
theorem own_any (xs : List Fld) (v : Value) (w : World) (hv : Flds w v xs) (hN : xs.length ≤ 1000000000000) :
    Calls Tryz.prog 18 #[v] w fun e w' => ∃ u, e = .returned u ∧ OwnF 41 w' w.heap.size u xs ∧ Below w.heap.size w w' := by
  obtain ⟨i0, hi, hz0, hz1, hz2⟩ := info_parts infoF
  obtain ⟨A, c, rfl, hc, hr⟩ := hv
  have hb0 : Below w.heap.size w w := Below.refl _ _
  have ho0 : w.ownsRow w.heap.size 41 2 (.slice none 0 0) 0 [] := World.ownsRow_nil _ _ _ _
  unfold OwnF
  go_enter Tryz.func18, Tryz.ntmps18
  go_wp2
  generalize hg : w.heap.size = g at *
  go_loopw [3, 8] (fun u i wr => ∃ (k : Nat) (u0 : Value), u0 = u ∧ k ≤ xs.length ∧ i = .int .i64 k ∧ wr.ownsRow g 41 2 u k ((xs.take k).flatMap fldV) ∧ Below g w wr) (fun _ i _ => xs.length - (intOf i).toNat)
  case atStart => exact ⟨0, _, rfl, Nat.zero_le _, rfl, ho0, hb0⟩
  case round =>
    obtain ⟨k, u, rfl, hk, rfl, hown, hb⟩ := hrel
    by_cases c1 : k < xs.length
    · obtain ⟨b, o, rfl, hlt, hx⟩ := hr (by omega)
      have hx0 := hx k xs[k] (by simp [c1])
      have hc0 := (hb.cell (p := ⟨b, o + k * 2, none⟩) (by omega)).trans hx0.1
      have hc1 := (hb.cell (p := ⟨b, o + k * 2 + 1, none⟩) (by omega)).trans hx0.2
      have hnx := Lib.hid (show (xs.take (k + 1)).flatMap fldV = (xs.take k).flatMap fldV ++ [.string xs[k].1, .string xs[k].2] by rw [List.take_succ_eq_append_getElem c1, List.flatMap_append]; rfl)
      have hgw : g ≤ wr.heap.size := by have := hb.size; omega
      generalize xs[k] = x at *
      clear hx0 hx
      have hbk := heap_alloc_new (wr.alloc (Obj.cells #[.string x.1, .string x.2] 64)) (Obj.cells #[.string x.1, .string x.2] 41)
      rw [World.size_alloc] at hbk
      go_wp2_with (at_builtin; refine wpList_append_own _ rfl _ _ 32 rfl g 41 i0 _ 2 32 Tryz.underlying32 hi hz0 hz1 hz2 rfl (by decide) _ _ _ rfl ((hown.alloc _).alloc _) ⟨_, 0, none⟩ 1 1 [.string x.1, .string x.2] rfl rfl (World.news_of_block hbk) (by simp [Value.oneCell']) (by unfold maxLen; omega) (by omega) (by simp; omega) ?_; intro v' w1 hown' hgrow _)
      go_roundw
      case rel => exact ⟨k + 1, _, rfl, by omega, by go_num, by rw [hnx.out]; exact hown', grow_low ((hb.alloc hgw _).alloc (by simp; omega) _) (by simp; omega) hgrow (fun b e => (hown.lt b e).1)⟩
      case measure => simp [intOf]; omega
    · have hk : k = xs.length := by omega
      subst hk
      go_wp2
      go_ret
      refine ⟨u, rfl, ?_, ?_⟩ <;> (try rw [hg])
      · rw [List.take_of_length_le (by omega)] at hown; exact hown
      · exact hb
end Go.Proofs.YthedoophopilgaaGreatDoor.Rw
