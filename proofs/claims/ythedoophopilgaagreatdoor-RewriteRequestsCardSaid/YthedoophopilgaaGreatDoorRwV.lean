/- fields.Fields.Set. -/
import Derived.Test.YthedoophopilgaaGreatDoorRwU
namespace Go.Proofs.YthedoophopilgaaGreatDoor.Rw
open Go.RowKit Go.Proofs.YthedoophopilgaaGreatDoor.Oct
set_option linter.unusedVariables false
/-- Everything below n0 reads as in W0. -/
def Kps (n0 : Nat) (W0 w : World) : Prop := Below n0 W0 w ∧ n0 ≤ w.heap.size
theorem Kps.sz {n0 : Nat} {W0 w : World} (h : Kps n0 W0 w) : n0 ≤ w.heap.size := h.2
theorem Kps.alloc {n0 : Nat} {W0 w : World} (h : Kps n0 W0 w) (o : Obj) : Kps n0 W0 (w.alloc o) := ⟨h.1.alloc h.2 o, by have := h.2; simp; omega⟩
theorem Kps.drew {n0 : Nat} {W0 w : World} (h : Kps n0 W0 w) : Kps n0 W0 w.drew := ⟨h.1.drew, h.2⟩
theorem Kps.call {n0 : Nat} {W0 w w' : World} (h : Kps n0 W0 w) (hb : Below w.heap.size w w') : Kps n0 W0 w' := ⟨h.1.trans (hb.mono h.2), Nat.le_trans h.2 hb.size⟩
theorem Kps.grown {n0 : Nat} {W0 w w' : World} {ob : Option Nat} (h : Kps n0 W0 w) (hg : w.grownBy w' ob) (ho : ∀ b, ob = some b → n0 ≤ b) : Kps n0 W0 w' := ⟨h.1.grown hg h.2 ho, Nat.le_trans h.2 hg.size⟩
theorem Kps.cell {n0 : Nat} {W0 w : World} (h : Kps n0 W0 w) {b o : Nat} {v : Value} (hb : b < n0) (hc : W0.cell? ⟨b, o, none⟩ = some v) : w.cell? ⟨b, o, none⟩ = some v := (h.1.cell (p := ⟨b, o, none⟩) hb).trans hc
theorem Blk.alloc {w : World} {b : Nat} {cs : Array Value} {T : TypeId} (h : Blk w b cs T) (o : Obj) : Blk (w.alloc o) b cs T := h.below ((Below.refl _ w).alloc (Nat.le_refl _) o)
theorem Blk.drew {w : World} {b : Nat} {cs : Array Value} {T : TypeId} (h : Blk w b cs T) : Blk w.drew b cs T := h
theorem Blk.newAt {w : World} {b : Nat} {cs : Array Value} {T : TypeId} (h : w.heap.size = b) : Blk (w.alloc (.cells cs T)) b cs T := by subst h; exact Blk.new w cs T
theorem strs_one {w : World} {q : Nat} {x : ByteArray} {T : TypeId} (h : Blk w q #[.string x] T) : Strs w (.slice (some ⟨q, 0, none⟩) 1 1) [x] :=
  ⟨_, 1, rfl, Nat.le_refl _, fun _ => ⟨q, 0, rfl, h.lt, fun j y hj => by
    cases j with
    | zero => simp at hj; subst hj; exact h.cell rfl
    | succ j => simp at hj⟩⟩
theorem take_of_idx {α : Type} {p : α → Bool} {l : List α} {k : Nat} (ha : l.any p = true) (h : idxF p l = (k : Int)) : l.takeWhile (fun x => !p x) = l.take k := by
  unfold idxF at h
  rw [if_pos ha] at h
  have hk : (l.takeWhile (fun x => !p x)).length = k := by omega
  have := List.prefix_iff_eq_take.1 (List.takeWhile_prefix (l := l) (fun x => !p x))
  rw [hk] at this
  exact this
theorem cells_sub {w : World} {b o c : Nat} {xs : List Fld} (hx : ∀ j x, xs[j]? = some x → w.cell? ⟨b, o + j * 2, none⟩ = some (.string x.1) ∧ w.cell? ⟨b, o + j * 2 + 1, none⟩ = some (.string x.2)) (k : Nat) :
    ∀ j x, (xs.drop k)[j]? = some x → w.cell? ⟨b, o + k * 2 + j * 2, none⟩ = some (.string x.1) ∧ w.cell? ⟨b, o + k * 2 + j * 2 + 1, none⟩ = some (.string x.2) := by
  intro j x hj
  rw [List.getElem?_drop] at hj
  have := hx (k + j) x hj
  rw [show o + k * 2 + j * 2 = o + (k + j) * 2 by omega]
  exact this
set_option maxRecDepth 100000 in
set_option maxHeartbeats 8000000 in
theorem set_any (xs : List Fld) (hX : ∀ x ∈ xs, x.1.size ≤ 1000000) (nm val : ByteArray) (hn : nm.size ≤ 1000000) (v : Value) (w : World) (hF : FldsB w v xs) (hf : Flds w v xs) (hM : xs.length ≤ 10000) :
    Calls Tryz.prog 30 #[v, .string nm, .string val] w fun e w' => ∃ u, e = .returned u ∧ OwnF 41 w' w.heap.size u (setP xs nm val) ∧ Below w.heap.size w w' := by
  obtain ⟨i0, hi, hz0, hz1, hz2⟩ := info_parts infoF
  have hB := (Below.refl _ w).alloc (Nat.le_refl _) (.cells #[.string nm] 9)
  have hbx : Blk (w.alloc (.cells #[.string nm] 9)) w.heap.size #[.string nm] 9 := Blk.new w _ _
  have hF1 := hF.below hB
  have hf1 := hf.below hB
  have dI := idxS_any xs hX nm hn w.heap.size v _ (hbx.cell (i := 0) rfl) hf1 (by omega)
  have hsB : (w.alloc (.cells #[.string nm] 9)).heap.size = w.heap.size + 1 := by simp
  have hP := Lib.hid (show setP xs nm val = if xs.any (fun f => isF f nm) = true then xs.takeWhile (fun f => !isF f nm) ++ (nm, val) :: dropF (xs.drop ((xs.takeWhile (fun f => !isF f nm)).length + 1)) [nm] else xs ++ [(nm, val)] from rfl)
  generalize setP xs nm val = R at *
  clear hF hf
  cases ha : xs.any (fun f => isF f nm) with
  | false =>
    obtain ⟨e1, _⟩ := idx_none ha
    rw [e1] at dI
    have hY := Lib.hid (show R = xs ++ [(nm, val)] by rw [hP.out, ha]; rfl)
    have dA := fun W h => add_any xs nm val v W h (by omega)
    clear ha e1 hP
    generalize xs ++ [(nm, val)] = R2 at *
    go_enter Tryz.func30, Tryz.ntmps30
    go_wp2_with (first
      | (go_at_call 46; (with_reducible refine dI.mono ?_); rintro e w1 ⟨rfl, hb1⟩
         have hF2 := hF1.below hb1
         have hnb := (hbx.below hb1).cell (i := 0) rfl
         replace hb1 := Lib.hid hb1)
      | (go_at_call 16; (with_reducible refine (dA _ hF2).mono ?_); rintro e w2 ⟨u2, rfl, ho2, hb2⟩))
    go_ret
    have hz := hb1.out.size
    exact ⟨_, rfl, by rw [hY.out]; exact own_lower ho2 (by omega), hB.trans ((hb1.out.trans (hb2.mono hz)).mono (by omega))⟩
  | true =>
    obtain ⟨k, x0, hk0, _, _, e1⟩ := idx_at ha
    have hkl : k < xs.length := (List.getElem?_eq_some_iff.1 hk0).1
    have htw := take_of_idx ha e1
    rw [e1] at dI
    have hY := Lib.hid (show R = (xs.take k ++ [(nm, val)]) ++ dropF (xs.drop (k + 1)) [nm] by
      rw [hP.out, ha, if_pos rfl, htw, List.length_take, Nat.min_eq_left (by omega), List.append_assoc]; rfl)
    clear ha e1 hP htw hk0
    rcases hF1 with ⟨_, hx⟩ | ⟨b, o, c, rfl, hc, hlt, hx⟩
    · rw [hx] at hkl; simp at hkl
    have hFt : FldsB (w.alloc (.cells #[.string nm] 9)) (.slice (some ⟨b, o, none⟩) k c) (xs.take k) := .inr ⟨b, o, c, by rw [List.length_take, Nat.min_eq_left (by omega)], by rw [List.length_take]; omega, hlt, fun j x hj => hx j x (by
      have := (List.getElem?_eq_some_iff.1 hj).1
      rw [List.length_take] at this
      rwa [List.getElem?_take_of_lt (by omega)] at hj)⟩
    have dCl := fun W h => clone_any (xs.take k) (.slice (some ⟨b, o, none⟩) k c) W h (by rw [List.length_take]; omega)
    have z1 : (0 : Int) ≤ (k : Int) := by omega
    have z2 : (k : Int) ≤ (xs.length : Int) := by omega
    have z3 : (k : Int) < (xs.length : Int) := by omega
    have z4 : (xs.length : Int) ≤ (c : Int) := by omega
    have z5 : (k : Int) ≤ (c : Int) := by omega
    have z6 : ¬ (k : Int) < 0 := by omega
    go_enter Tryz.func30, Tryz.ntmps30
    go_upto_region 5 with (first
      | (go_at_call 46; (with_reducible refine dI.mono ?_); rintro e w1 ⟨rfl, hb1⟩
         have hF2 := hFt.below hb1
         have hbx1 := hbx.below hb1
         have hnb := hbx1.cell (i := 0) rfl
         replace hb1 := Lib.hid hb1)
      | (go_at_call 33; (with_reducible refine (dCl _ hF2).mono ?_); rintro e w5 ⟨u5, rfl, ho5, hb5⟩))
    have hlt1 : w.heap.size < w1.heap.size := hbx1.lt
    have hbx5 := hbx1.below hb5
    have hb15 : w1.heap.size ≤ w5.heap.size := hb5.size
    have hlb : b < w1.heap.size := by have := hb1.out.size; omega
    have hx5 : ∀ j x, xs[j]? = some x → w5.cell? ⟨b, o + j * 2, none⟩ = some (.string x.1) ∧ w5.cell? ⟨b, o + j * 2 + 1, none⟩ = some (.string x.2) := fun j x hj => by
      obtain ⟨h1, h2⟩ := hx j x hj
      exact ⟨(hb5.cell (p := ⟨b, o + j * 2, none⟩) hlb).trans ((hb1.out.cell (p := ⟨b, o + j * 2, none⟩) hlt).trans h1), (hb5.cell (p := ⟨b, o + j * 2 + 1, none⟩) hlb).trans ((hb1.out.cell (p := ⟨b, o + j * 2 + 1, none⟩) hlt).trans h2)⟩
    have hK0 : Kps w1.heap.size w5 w5.drew := ⟨(Below.refl _ w5).drew, hb15⟩
    have hK00 : Kps w1.heap.size w5 w5 := ⟨Below.refl _ w5, hb15⟩
    have hu5 : ∀ b', u5.ownBlock = some b' → w1.heap.size ≤ b' ∧ b' < w5.heap.size := World.ownsRow.lt ho5
    have hSS : ∀ w', Kps w1.heap.size w5 w' → (w'.cell? ⟨w.heap.size, 0, none⟩ = some (.string nm) ∧ Kps w1.heap.size w5 w') := fun w' h => ⟨h.cell hlt1 (hbx5.cell (i := 0) rfl), h⟩
    have hown5 : w5.ownsRow w1.heap.size 41 2 u5 k ((xs.take k).flatMap fldV) := by
      have h : w5.ownsRow w1.heap.size 41 2 u5 (xs.take k).length ((xs.take k).flatMap fldV) := ho5
      rwa [List.length_take, Nat.min_eq_left (by omega)] at h
    have hLk : (xs.take k).length = k := by rw [List.length_take]; omega
    have hHf : (xs.take k ++ [(nm, val)]).flatMap fldV = (xs.take k).flatMap fldV ++ [.string nm, .string val] := by rw [List.flatMap_append]; rfl
    have dD := fun v2 nv W hF hS => drop_any (xs.drop (k + 1)) (fun x hx => hX x (List.mem_of_mem_drop hx)) [nm] (fun t ht => by rw [List.mem_singleton.1 ht]; exact hn) v2 nv W hF hS (by rw [List.length_drop]; omega) (by simp)
    have hDl : (dropF (xs.drop (k + 1)) [nm]).length ≤ 100000 := by
      have := drop_le (xs.drop (k + 1)) [nm]
      rw [List.length_drop] at this
      omega
    have hLk2 : (xs.take k ++ [(nm, val)]).length = k + 1 := by rw [List.length_append, hLk]; rfl
    have dC := fun v1 v2 q W c0 c1 F1 F2 => concat_any (xs.take k ++ [(nm, val)]) (dropF (xs.drop (k + 1)) [nm]) v1 v2 q W c0 c1 F1 F2 (by rw [hLk2]; omega) (by rw [hLk2]; omega) hDl
    have hFB : ∀ W, Kps w1.heap.size w5 W → FldsB W (if c = k + 1 then .slice (some ⟨b, o, none⟩) 0 0 else .slice (some ⟨b, o + (k + 1) * 2, none⟩) (xs.length - (k + 1)) (c - (k + 1))) (xs.drop (k + 1)) := fun W hk => by
      have hlW : b < W.heap.size := by have := hk.2; omega
      by_cases hck : c = k + 1
      · rw [if_pos hck]
        refine .inr ⟨b, o, 0, by rw [List.length_drop]; congr 1; omega, by rw [List.length_drop]; omega, hlW, fun j x hj => ?_⟩
        have := (List.getElem?_eq_some_iff.1 hj).1
        rw [List.length_drop] at this
        omega
      · rw [if_neg hck]
        refine .inr ⟨b, o + (k + 1) * 2, c - (k + 1), by rw [List.length_drop], by rw [List.length_drop]; omega, hlW, fun j x hj => ?_⟩
        obtain ⟨h1, h2⟩ := cells_sub (c := c) hx5 (k + 1) j x hj
        exact ⟨hk.cell hlb h1, hk.cell hlb h2⟩
    have z7 : IntKind.i64.wrap ((k : Int) + 1) = (k : Int) + 1 := IntWalk.i64_in _ (by omega)
    have z8 : (0 : Int) ≤ (k : Int) + 1 := by omega
    have z9 : (k : Int) + 1 ≤ (xs.length : Int) := by omega
    have z10 : ((k : Int) + 1).toNat = k + 1 := by omega
    have hdec : decide ((k : Int) < 0) = false := decide_eq_false (by omega)
    have hHfh := Lib.hid hHf
    have hLk2h := Lib.hid hLk2
    have hb5h := Lib.hid hb5
    clear hHf hLk2 hLk hb5 hx5 hx hF2 hbx hFt dCl dI hf1 hDl ho5 hbx1 hnb
    generalize dropF (xs.drop (k + 1)) [nm] = D at *
    generalize xs.drop (k + 1) = XD at *
    generalize xs.take k ++ [(nm, val)] = HN at *
    generalize (xs.take k).flatMap fldV = FT at *
    by_cases hck : c = k + 1
    · simp only [if_pos hck] at hFB
      subst hck
      go_region_held3 (fun w' => w'.cell? ⟨w.heap.size, 0, none⟩ = some (.string nm) ∧ Kps w1.heap.size w5 w')
        (first
          | with_reducible exact hSS _ hK0
          | (go_split_ands; with_reducible exact hSS _ (by assumption))
          | (go_split_ands; refine hSS _ ?_; repeat (first | (with_reducible assumption) | with_reducible refine Kps.drew ?_ | with_reducible refine Kps.alloc ?_ _ | with_reducible refine Kps.call ?_ hb7 | with_reducible refine Kps.call ?_ hb9 | with_reducible refine Kps.grown ?_ hgrow6 (fun b' e => (hu5 b' e).1))))
        (first
          | (refine step_append_lies _ (by rfl) (.tmp 22) (.tmp 26) _ (by rfl) w1.heap.size 41 i0 _ 2 32 Tryz.underlying32 hi hz0 hz1 hz2 rfl (by omega) u5 k FT (by rfl) (by repeat (first | (with_reducible exact hown5) | with_reducible refine World.ownsRow.drew ?_ | with_reducible refine World.ownsRow.alloc ?_ _ | with_reducible refine World.ownsRow.kept ?_ (grown_below hb9) (own_none _))) ⟨_, 0, none⟩ 1 1 [.string nm, .string val] (by rfl) (by rfl) (World.news_of_block (cs := #[.string nm, .string val]) (t := 41) (fr := (0, 0)) (show Blk _ _ _ _ by repeat (first | (with_reducible exact Blk.newAt (by simp)) | with_reducible refine Blk.drew ?_ | with_reducible refine Blk.alloc ?_ _ | with_reducible refine Blk.below ?_ hb9))) (by simp [Value.oneCell']) (by omega) (by unfold maxLen; omega) (by omega) (by simp; omega) _ rfl ?_; intro gg6 cap6 w6 hown6 hgrow6 hat6 hlt6)
          | (go_at_call 27; refine (dD _ _ _ (hFB _ (by go_split_ands; assumption)) (strs_one (T := 9) (by repeat (first | (with_reducible exact Blk.newAt (by simp)) | with_reducible refine Blk.drew ?_ | with_reducible refine Blk.alloc ?_ _ | with_reducible refine Blk.grown ?_ hgrow6 (fun e => by have := (hu5 _ e.symm).2; omega))))).mono ?_; rintro e w9 ⟨u9, rfl, ho9, hb9⟩; obtain ⟨A9, c9, rfl⟩ := row_slice ho9; unfold OwnF at ho9; have hl9 := World.ownsRow.lt ho9; replace ho9 := own_lower ho9 (Nat.zero_le _))
          | (go_at_call 48
             refine (dC (.slice (some ⟨gg6, 0, none⟩) (k + 1) cap6) (.slice A9 D.length c9) _ _ (Blk.cell (cs := #[.slice (some ⟨gg6, 0, none⟩) (k + 1) cap6, .slice A9 D.length c9]) (T := 32) (i := 0) (by repeat (first | (with_reducible exact Blk.newAt (by simp)) | with_reducible refine Blk.drew ?_ | with_reducible refine Blk.alloc ?_ _)) rfl) (Blk.cell (cs := #[.slice (some ⟨gg6, 0, none⟩) (k + 1) cap6, .slice A9 D.length c9]) (T := 32) (i := 1) (by repeat (first | (with_reducible exact Blk.newAt (by simp)) | with_reducible refine Blk.drew ?_ | with_reducible refine Blk.alloc ?_ _)) rfl)
              (OwnF.fldsB (e := 41) (base := w1.heap.size) (by unfold OwnF; rw [hLk2h.out, hHfh.out]; repeat (first | (with_reducible exact hown6) | with_reducible refine World.ownsRow.drew ?_ | with_reducible refine World.ownsRow.alloc ?_ _ | with_reducible refine World.ownsRow.kept ?_ (grown_below hb9) (own_none _))))
              (OwnF.fldsB (e := 41) (base := 0) (by unfold OwnF; repeat (first | (with_reducible exact ho9) | with_reducible refine World.ownsRow.drew ?_ | with_reducible refine World.ownsRow.alloc ?_ _ | with_reducible refine World.ownsRow.kept ?_ hgrow6 (by cases hA9 : (Value.slice A9 D.length c9).ownBlock with | none => exact .inl rfl | some bb => exact .inr (fun e => by have h1 := (hl9 bb hA9).1; have h2 := (hu5 bb e.symm).2; simp at h1; omega)))))).mono ?_
             rintro e w7 ⟨u7, rfl, ho7, hb7⟩))
      all_goals
        have hk7 : Kps w1.heap.size w5 w7 := by go_split_ands; assumption
        go_wp2
        go_ret
        refine ⟨_, rfl, ?_, hB.trans ((hb1.out.trans ((hb5h.out.trans hk7.1).mono hb1.out.size)).mono (by omega))⟩
        rw [hY.out]
        exact own_lower ho7 (by have h9 := hb9.size; have h6 := hgrow6.size; simp at h9 h6 ⊢; omega)
    · simp only [if_neg hck] at hFB
      go_region_held3 (fun w' => w'.cell? ⟨w.heap.size, 0, none⟩ = some (.string nm) ∧ Kps w1.heap.size w5 w')
        (first
          | with_reducible exact hSS _ hK0
          | (go_split_ands; with_reducible exact hSS _ (by assumption))
          | (go_split_ands; refine hSS _ ?_; repeat (first | (with_reducible assumption) | with_reducible refine Kps.drew ?_ | with_reducible refine Kps.alloc ?_ _ | with_reducible refine Kps.call ?_ hb7 | with_reducible refine Kps.call ?_ hb9 | with_reducible refine Kps.grown ?_ hgrow6 (fun b' e => (hu5 b' e).1))))
        (first
          | (refine step_append_lies _ (by rfl) (.tmp 22) (.tmp 26) _ (by rfl) w1.heap.size 41 i0 _ 2 32 Tryz.underlying32 hi hz0 hz1 hz2 rfl (by omega) u5 k FT (by rfl) (by repeat (first | (with_reducible exact hown5) | with_reducible refine World.ownsRow.drew ?_ | with_reducible refine World.ownsRow.alloc ?_ _ | with_reducible refine World.ownsRow.kept ?_ (grown_below hb9) (own_none _))) ⟨_, 0, none⟩ 1 1 [.string nm, .string val] (by rfl) (by rfl) (World.news_of_block (cs := #[.string nm, .string val]) (t := 41) (fr := (0, 0)) (show Blk _ _ _ _ by repeat (first | (with_reducible exact Blk.newAt (by simp)) | with_reducible refine Blk.drew ?_ | with_reducible refine Blk.alloc ?_ _ | with_reducible refine Blk.below ?_ hb9))) (by simp [Value.oneCell']) (by omega) (by unfold maxLen; omega) (by omega) (by simp; omega) _ rfl ?_; intro gg6 cap6 w6 hown6 hgrow6 hat6 hlt6)
          | (go_at_call 27; refine (dD _ _ _ (hFB _ (by go_split_ands; assumption)) (strs_one (T := 9) (by repeat (first | (with_reducible exact Blk.newAt (by simp)) | with_reducible refine Blk.drew ?_ | with_reducible refine Blk.alloc ?_ _ | with_reducible refine Blk.grown ?_ hgrow6 (fun e => by have := (hu5 _ e.symm).2; omega))))).mono ?_; rintro e w9 ⟨u9, rfl, ho9, hb9⟩; obtain ⟨A9, c9, rfl⟩ := row_slice ho9; unfold OwnF at ho9; have hl9 := World.ownsRow.lt ho9; replace ho9 := own_lower ho9 (Nat.zero_le _))
          | (go_at_call 48
             refine (dC (.slice (some ⟨gg6, 0, none⟩) (k + 1) cap6) (.slice A9 D.length c9) _ _ (Blk.cell (cs := #[.slice (some ⟨gg6, 0, none⟩) (k + 1) cap6, .slice A9 D.length c9]) (T := 32) (i := 0) (by repeat (first | (with_reducible exact Blk.newAt (by simp)) | with_reducible refine Blk.drew ?_ | with_reducible refine Blk.alloc ?_ _)) rfl) (Blk.cell (cs := #[.slice (some ⟨gg6, 0, none⟩) (k + 1) cap6, .slice A9 D.length c9]) (T := 32) (i := 1) (by repeat (first | (with_reducible exact Blk.newAt (by simp)) | with_reducible refine Blk.drew ?_ | with_reducible refine Blk.alloc ?_ _)) rfl)
              (OwnF.fldsB (e := 41) (base := w1.heap.size) (by unfold OwnF; rw [hLk2h.out, hHfh.out]; repeat (first | (with_reducible exact hown6) | with_reducible refine World.ownsRow.drew ?_ | with_reducible refine World.ownsRow.alloc ?_ _ | with_reducible refine World.ownsRow.kept ?_ (grown_below hb9) (own_none _))))
              (OwnF.fldsB (e := 41) (base := 0) (by unfold OwnF; repeat (first | (with_reducible exact ho9) | with_reducible refine World.ownsRow.drew ?_ | with_reducible refine World.ownsRow.alloc ?_ _ | with_reducible refine World.ownsRow.kept ?_ hgrow6 (by cases hA9 : (Value.slice A9 D.length c9).ownBlock with | none => exact .inl rfl | some bb => exact .inr (fun e => by have h1 := (hl9 bb hA9).1; have h2 := (hu5 bb e.symm).2; simp at h1; omega)))))).mono ?_
             rintro e w7 ⟨u7, rfl, ho7, hb7⟩))
      all_goals
        have hk7 : Kps w1.heap.size w5 w7 := by go_split_ands; assumption
        go_wp2
        go_ret
        refine ⟨_, rfl, ?_, hB.trans ((hb1.out.trans ((hb5h.out.trans hk7.1).mono hb1.out.size)).mono (by omega))⟩
        rw [hY.out]
        exact own_lower ho7 (by have h9 := hb9.size; have h6 := hgrow6.size; simp at h9 h6 ⊢; omega)
end Go.Proofs.YthedoophopilgaaGreatDoor.Rw
