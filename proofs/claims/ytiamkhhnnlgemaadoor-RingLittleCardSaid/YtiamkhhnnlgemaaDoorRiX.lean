/- The plain law of RingLittle: without an entry each number is answered by whom it was, or by the next one. -/
import Derived.Test.YtiamkhhnnlgemaaDoorRiV
namespace Go.Proofs.YtiamkhhnnlgemaaDoor.Ri
open Go.RowKit Go.Proofs.YtiamkhhnnlgemaaDoor.Sip Go.Proofs.YtiamkhhnnlgemaaDoor.Oct
set_option linter.unusedVariables false
theorem sub_len : ∀ (l1 l2 : List (List UInt8)), l1.Nodup → (∀ x ∈ l1, x ∈ l2) → l1.length ≤ l2.length
  | [], l2, _, _ => by simp
  | a :: t, l2, h, hs => by
    obtain ⟨h1, h2⟩ := List.nodup_cons.1 h
    have := sub_len t (l2.erase a) h2 (fun x hx => (List.mem_erase_of_ne (fun e => h1 (by rw [← e]; exact hx))).2 (hs x (by simp [hx])))
    have h3 := List.length_erase_of_mem (hs a (by simp))
    have h4 : 0 < l2.length := List.length_pos_of_mem (hs a (by simp))
    simp only [List.length_cons]
    omega
/-- The round in the order of its parts. -/
def roundF (ys : List Pt) (m : Int) : List Pt := ys.dropWhile (fun p => decide (p.1 < m)) ++ ys.takeWhile (fun p => decide (p.1 < m))
theorem round_eq (ys : List Pt) (m : Int) : roundL ys (fromN ys m) = roundF ys m := by
  have e : ys.takeWhile (fun p => decide (p.1 < m)) ++ ys.dropWhile (fun p => decide (p.1 < m)) = ys := List.takeWhile_append_dropWhile
  unfold roundF fromN lbN roundL
  generalize ys.takeWhile (fun p => decide (p.1 < m)) = T at *
  generalize ys.dropWhile (fun p => decide (p.1 < m)) = D at *
  subst e
  split
  · rename_i h
    have : D = [] := List.eq_nil_of_length_eq_zero (by rw [List.length_append] at h; omega)
    subst this
    simp
  · rw [List.drop_left, List.take_left]
theorem tw_eq {ys : List Pt} (h : SrtP ys) (m : Int) : ys.takeWhile (fun p => decide (p.1 < m)) = ys.filter (fun p => decide (p.1 < m)) ∧ ys.dropWhile (fun p => decide (p.1 < m)) = ys.filter (fun p => !decide (p.1 < m)) := by
  induction ys with
  | nil => exact ⟨rfl, rfl⟩
  | cons x l ih =>
    obtain ⟨h1, h2⟩ := List.pairwise_cons.1 h
    obtain ⟨i1, i2⟩ := ih h2
    by_cases c : x.1 < m
    · have d : decide (x.1 < m) = true := decide_eq_true c
      constructor
      · rw [List.takeWhile_cons, List.filter_cons, d, i1]; rfl
      · rw [List.dropWhile_cons, List.filter_cons, d, i2]; rfl
    · have d : decide (x.1 < m) = false := decide_eq_false c
      have hall : ∀ y ∈ l, ¬ y.1 < m := fun y hy hlt => h1 y hy (.inl (by omega))
      constructor
      · rw [List.takeWhile_cons, List.filter_cons, d]
        rw [List.filter_eq_nil_iff.2 (fun y hy => by simpa using hall y hy)]; rfl
      · rw [List.dropWhile_cons, List.filter_cons, d]
        rw [List.filter_eq_self.2 (fun y hy => by simpa using hall y hy)]; rfl
theorem srt_filter {ys : List Pt} (h : SrtP ys) (q : Pt → Bool) : SrtP (ys.filter q) := h.sublist List.filter_sublist
theorem round_filter {ys : List Pt} (h : SrtP ys) (q : Pt → Bool) (m : Int) : roundF (ys.filter q) m = (roundF ys m).filter q := by
  unfold roundF
  rw [(tw_eq h m).1, (tw_eq h m).2, (tw_eq (srt_filter h q) m).1, (tw_eq (srt_filter h q) m).2, List.filter_append]
  simp only [List.filter_filter]
  congr 1 <;> exact congrArg (fun f => List.filter f ys) (funext fun a => Bool.and_comm _ _)
theorem round_mem {ys : List Pt} (m : Int) (p : Pt) : p ∈ roundF ys m ↔ p ∈ ys := by
  unfold roundF
  have e : ys.takeWhile (fun p => decide (p.1 < m)) ++ ys.dropWhile (fun p => decide (p.1 < m)) = ys := List.takeWhile_append_dropWhile
  conv => rhs; rw [← e]
  rw [List.mem_append, List.mem_append, or_comm]
theorem foldN_filter (r : List UInt8 → Bool) : ∀ (l : List Pt) (O : List (List UInt8)), (l.foldl addN O).filter r = (l.filter (fun p => r p.2)).foldl addN (O.filter r)
  | [], O => rfl
  | p :: l, O => by
    rw [List.foldl_cons, foldN_filter r l, List.filter_cons]
    by_cases c : r p.2 = true
    · rw [if_pos c, List.foldl_cons]
      congr 1
      unfold addN
      by_cases d : p.2 ∈ O
      · rw [if_pos d, if_pos (List.mem_filter.2 ⟨d, c⟩)]
      · rw [if_neg d, if_neg (fun h => d (List.mem_filter.1 h).1), List.filter_append]
        simp [c]
    · rw [if_neg c]
      congr 1
      unfold addN
      split
      · rfl
      · rw [List.filter_append]; simp [c]
theorem foldN_pre : ∀ (l : List Pt) (O : List (List UInt8)), O <+: l.foldl addN O
  | [], O => List.prefix_refl _
  | p :: l, O => by
    rw [List.foldl_cons]
    refine List.IsPrefix.trans ?_ (foldN_pre l (addN O p))
    unfold addN
    split
    · exact List.prefix_refl _
    · exact List.prefix_append _ _
theorem walk_head (p : Pt) (l : List Pt) : ∃ t, walkF (p :: l) = p.2 :: t := by
  obtain ⟨t, ht⟩ := foldN_pre l [p.2]
  exact ⟨t, by unfold walkF; rw [List.foldl_cons]; exact ht.symm⟩
theorem foldN_nodup : ∀ (l : List Pt) (O : List (List UInt8)), O.Nodup → (l.foldl addN O).Nodup
  | [], O, h => h
  | p :: l, O, h => by
    rw [List.foldl_cons]
    refine foldN_nodup l _ ?_
    unfold addN
    split
    · exact h
    · rename_i hn
      rw [List.nodup_append]
      exact ⟨h, by simp, fun a ha b hb e => hn (by rw [List.mem_singleton.1 hb] at e; exact e ▸ ha)⟩
theorem foldN_mem (x : List UInt8) : ∀ (l : List Pt) (O : List (List UInt8)), x ∈ l.foldl addN O ↔ x ∈ O ∨ ∃ p ∈ l, p.2 = x
  | [], O => by simp
  | p :: l, O => by
    rw [List.foldl_cons, foldN_mem x l]
    have : x ∈ addN O p ↔ x ∈ O ∨ p.2 = x := by
      unfold addN
      split
      · rename_i h
        exact ⟨.inl, fun h' => h'.elim id (fun e => e ▸ h)⟩
      · simp [eq_comm]
    rw [this]
    constructor
    · rintro ((h | h) | ⟨q, h1, h2⟩)
      · exact .inl h
      · exact .inr ⟨p, by simp, h⟩
      · exact .inr ⟨q, by simp [h1], h2⟩
    · rintro (h | ⟨q, h1, h2⟩)
      · exact .inl (.inl h)
      · rcases List.mem_cons.1 h1 with rfl | h1
        · exact .inl (.inr h2)
        · exact .inr ⟨q, h1, h2⟩
/-- Who answers, off the round. -/
theorem pick_round (ys : List Pt) (m : Int) : pickS ys m = match roundF ys m with
    | [] => []
    | p :: _ => p.2 := by
  unfold pickS
  rw [round_eq]
  cases roundF ys m <;> rfl
theorem foldl_max (F : List Ent) : ∀ a b : Int, F.foldl (fun a x => max a x.2) (max a b) = max a (F.foldl (fun a x => max a x.2) b) := by
  induction F with
  | nil => intro a b; rfl
  | cons x F ih =>
    intro a b
    rw [List.foldl_cons, List.foldl_cons, ← ih]
    congr 1
    omega
def great0 (F : List Ent) : Int := F.foldl (fun a x => max a x.2) 0
theorem great_10 (F : List Ent) : great1 F = max 1 (great0 F) := by
  unfold great1 great0
  rw [← foldl_max]
  rfl
def lessN (F : List Ent) (k : Nat) : List Ent := F.take k ++ F.drop (k + 1)
theorem pts_less (K : List UInt8) (per gr : Int) (F : List Ent) (k : Nat) (hk : k < F.length) (hn : (F.map Prod.fst).Nodup) :
    (lessN F k).flatMap (ptsE K per gr) = (F.flatMap (ptsE K per gr)).filter (fun p => decide (p.2 ≠ F[k].1)) := by
  have hsp : F = F.take k ++ F[k] :: F.drop (k + 1) := by rw [List.getElem_cons_drop, List.take_append_drop]
  have hne : ∀ x ∈ lessN F k, x.1 ≠ F[k].1 := by
    rw [hsp, List.map_append, List.map_cons, List.nodup_append] at hn
    obtain ⟨h1, h2, h3⟩ := hn
    intro x hx
    rcases List.mem_append.1 hx with hx | hx
    · exact h3 x.1 (List.mem_map_of_mem hx) _ (by simp)
    · exact fun e => (List.nodup_cons.1 h2).1 (e ▸ List.mem_map_of_mem hx)
  have hf : ∀ x : Ent, x.1 ≠ F[k].1 → (ptsE K per gr x).filter (fun p => decide (p.2 ≠ F[k].1)) = ptsE K per gr x := fun x hx => List.filter_eq_self.2 (fun p hp => by
    unfold ptsE at hp
    obtain ⟨i, _, rfl⟩ := List.mem_map.1 hp
    exact decide_eq_true (show x.1 ≠ F[k].1 from hx))
  have hz : (ptsE K per gr F[k]).filter (fun p => decide (p.2 ≠ F[k].1)) = [] := List.filter_eq_nil_iff.2 (fun p hp => by
    unfold ptsE at hp
    obtain ⟨i, _, rfl⟩ := List.mem_map.1 hp
    simp [ptOf])
  have hl : ∀ L : List Ent, (∀ x ∈ L, x.1 ≠ F[k].1) → (L.flatMap (ptsE K per gr)).filter (fun p => decide (p.2 ≠ F[k].1)) = L.flatMap (ptsE K per gr) := by
    intro L
    induction L with
    | nil => intro _; rfl
    | cons x L ih =>
      intro h
      rw [List.flatMap_cons, List.filter_append, hf x (h x (by simp)), ih (fun y hy => h y (by simp [hy]))]
  have hR : F.flatMap (ptsE K per gr) = (F.take k).flatMap (ptsE K per gr) ++ (ptsE K per gr F[k] ++ (F.drop (k + 1)).flatMap (ptsE K per gr)) := by
    conv => lhs; rw [hsp]
    rw [List.flatMap_append, List.flatMap_cons]
  rw [hR, List.filter_append, List.filter_append, hz, List.nil_append, hl _ (fun x hx => hne x (List.mem_append_left _ hx)), hl _ (fun x hx => hne x (List.mem_append_right _ hx))]
  unfold lessN
  rw [List.flatMap_append]
theorem less_ok {F : List Ent} (hok : OkR F) (k : Nat) : OkR (lessN F k) := by
  have hs : (lessN F k).Sublist F := by
    unfold lessN
    conv => rhs; rw [← List.take_append_drop k F]
    refine List.Sublist.append_left ?_ _
    rw [← List.drop_drop]
    exact List.drop_sublist _ _
  exact ⟨Nat.le_trans hs.length_le hok.1, fun x hx => hok.2.1 x (hs.mem hx), hok.2.2.sublist (hs.map _)⟩
/-- THE PLAIN LAW. -/
theorem little (K : List UInt8) (per : Int) (F : List Ent) (hok : OkR F) (k : Nat) (hk : k < F.length) (h2 : 2 ≤ F.length) (hg : great0 (lessN F k) = great0 F) (ys zs : List Pt) (hy : ys.Perm (ptsAll K per F)) (sy : SrtP ys) (hz : zs.Perm (ptsAll K per (lessN F k))) (sz : SrtP zs) (m : Int) :
    (walkF (roundL ys (fromN ys m))).length = F.length ∧ ∃ d0 d1 t, walkF (roundL ys (fromN ys m)) = d0 :: d1 :: t ∧ pickS zs m = if d0 = F[k].1 then d1 else d0 := by
  have hgr : great1 (lessN F k) = great1 F := by rw [great_10, great_10, hg]
  have hzs : zs = ys.filter (fun p => decide (p.2 ≠ F[k].1)) := by
    refine srtP_unique (hz.trans ?_) sz (srt_filter sy _)
    have e : ptsAll K per (lessN F k) = (ptsAll K per F).filter (fun p => decide (p.2 ≠ F[k].1)) := by
      unfold ptsAll
      rw [hgr]
      exact pts_less K _ _ F k hk hok.2.2
    rw [e]
    exact (hy.filter _).symm
  have hmem : ∀ n, (∃ p ∈ roundF ys m, p.2 = n) ↔ n ∈ F.map Prod.fst := by
    intro n
    constructor
    · rintro ⟨p, hp, rfl⟩
      have := hy.mem_iff.1 ((round_mem m p).1 hp)
      unfold ptsAll at this
      obtain ⟨x, hx, hx2⟩ := List.mem_flatMap.1 this
      unfold ptsE at hx2
      obtain ⟨i, _, rfl⟩ := List.mem_map.1 hx2
      exact List.mem_map_of_mem hx
    · intro hn
      obtain ⟨x, hx, rfl⟩ := List.mem_map.1 hn
      obtain ⟨p1, p2⟩ := perN_rng per
      have hc := cntE_rng p1 p2 (hok.2.1 x hx).1 ((great_ge F 1).2 _ hx)
      refine ⟨ptOf K x.1 0, (round_mem m _).2 (hy.mem_iff.2 ?_), rfl⟩
      unfold ptsAll
      refine List.mem_flatMap.2 ⟨x, hx, ?_⟩
      unfold ptsE
      refine List.mem_map.2 ⟨0, List.mem_range.2 ?_, rfl⟩
      have : 1 ≤ cntE (perN per) (great1 F) x.2 := hc.1
      omega
  rw [round_eq]
  have hwm : ∀ n, n ∈ walkF (roundF ys m) ↔ n ∈ F.map Prod.fst := fun n => by
    unfold walkF
    rw [foldN_mem, ← hmem]
    simp
  have hnd : (walkF (roundF ys m)).Nodup := foldN_nodup _ _ List.nodup_nil
  have hlen : (walkF (roundF ys m)).length = F.length := by
    have a1 := sub_len _ _ hnd (fun x hx => (hwm x).1 hx)
    have a2 := sub_len _ _ hok.2.2 (fun x hx => (hwm x).2 hx)
    rw [List.length_map] at a1 a2
    omega
  refine ⟨hlen, ?_⟩
  have hfl : (walkF (roundF ys m)).filter (fun n => decide (n ≠ F[k].1)) = walkF (roundF zs m) := by
    rw [hzs, round_filter sy]
    unfold walkF
    rw [foldN_filter (fun n => decide (n ≠ F[k].1))]
    rfl
  generalize walkF (roundF ys m) = W at *
  match W, hlen with
  | [], h => simp at h; omega
  | [_], h => simp at h; omega
  | d0 :: d1 :: t, h =>
    refine ⟨d0, d1, t, rfl, ?_⟩
    have hd : d0 ≠ d1 := fun e => (List.nodup_cons.1 hnd).1 (by simp [e])
    rw [pick_round]
    have hne : roundF zs m ≠ [] := by
      intro e
      rw [e, List.filter_cons, List.filter_cons] at hfl
      by_cases c : d0 = F[k].1
      · have c2 : d1 ≠ F[k].1 := fun e => hd (c.trans e.symm)
        simp [c, c2, walkF] at hfl
      · simp [c, walkF] at hfl
    cases hr : roundF zs m with
    | nil => exact absurd hr hne
    | cons p l =>
      obtain ⟨t2, ht2⟩ := walk_head p l
      rw [hr, ht2, List.filter_cons, List.filter_cons] at hfl
      by_cases c : d0 = F[k].1
      · have c2 : d1 ≠ F[k].1 := fun e => hd (c.trans e.symm)
        rw [if_neg (by simpa using c), if_pos (by simpa using c2)] at hfl
        rw [if_pos c]
        exact (List.cons.inj hfl).1.symm
      · rw [if_pos (by simpa using c)] at hfl
        rw [if_neg c]
        exact (List.cons.inj hfl).1.symm
end Go.Proofs.YtiamkhhnnlgemaaDoor.Ri
