/- A request's first line: start.ParseRequest. -/
import Derived.Test.YtkbjklnkeammiaaDoorStB
namespace Go.Proofs.YtkbjklnkeammiaaDoor.Oct
open Go.RowKit
set_option linter.unusedVariables false
theorem split_list (c : UInt8) (s : ByteArray) : Lib.splitB ⟨#[c]⟩ 0 (Lib.countB s ⟨#[c]⟩) s = (partsC c s.data.toList).map mk := by
  have h := Lib.splitB_data ⟨#[c]⟩ 0 (Lib.countB s ⟨#[c]⟩) s
  rw [show Lib.splitK (⟨#[c]⟩ : ByteArray).data.toList 0 (Lib.countB s ⟨#[c]⟩) s.data.toList = partsC c s.data.toList from splitK_parts c _ _ (Nat.le_refl _)] at h
  rw [← h, List.map_map]
  conv => lhs; rw [← List.map_id (Lib.splitB ⟨#[c]⟩ 0 (Lib.countB s ⟨#[c]⟩) s)]
  exact List.map_congr_left (fun x _ => (mk_data x).symm)
theorem split_any (s : ByteArray) (hs : s.size < 4294967281) (w : World) (he : Env w) :
    Calls Tryd.prog 79 #[.string s, .string ⟨#[32]⟩] w fun e w' => ∃ u, e = .returned u ∧ OwnStrs w' w.heap.size u ((partsC 32 s.data.toList).map mk) ∧ Below w.heap.size w w' := by
  obtain ⟨m, hm⟩ := he.ml
  refine (Tryd.strings_Split s ⟨#[32]⟩ m w hs hm (by decide)).mono ?_
  rintro e w' ⟨rfl, rfl⟩
  have h1 := Lib.splitB_all ⟨#[32]⟩ (by decide) 0 _ s rfl
  have h2 := Lib.countB_le ⟨#[32]⟩ (by decide) s.size s (Nat.le_refl _)
  rw [split_list] at h1 ⊢
  rw [← h1]
  exact ⟨_, rfl, ownStrs_new w _ (by omega), (Below.refl _ w).alloc (Nat.le_refl _) _⟩
/-- A block of two cells that the call made for a variable, after a callee. -/
theorem two_of {w w1 : World} {a b : Value} {T : TypeId} (hb : Below (w.alloc (.cells #[a, b] T)).heap.size (w.alloc (.cells #[a, b] T)) w1) :
    w1.cell? ⟨w.heap.size, 0, none⟩ = some a ∧ w1.cell? ⟨w.heap.size, 1, none⟩ = some b ∧ w1.frozen? ⟨w.heap.size, 0, none⟩ = false ∧ w1.frozen? ⟨w.heap.size, 1, none⟩ = false ∧ w1.heap.size ≠ w.heap.size ∧ w.heap.size < w1.heap.size := by
  have h : w1.heap[w.heap.size]? = some (.cells #[a, b] T) := (hb.block _ (by simp)).trans (blk_new _ _)
  have h2 := hb.size
  simp at h2
  refine ⟨?_, ?_, ?_, ?_, by omega, by omega⟩
  · simp only [World.cell?, h, Option.isSome_none, Bool.false_eq_true, if_false]; rfl
  · simp only [World.cell?, h, Option.isSome_none, Bool.false_eq_true, if_false]; rfl
  · simp only [World.frozen?, h]; simp
  · simp only [World.frozen?, h]; simp
set_option maxRecDepth 100000 in
theorem check_any (m t : List UInt8) (hm : m.length ≤ 100000) (ht : t.length ≤ 100000) (w : World) :
    Calls Tryd.prog 46 #[reqV (m, t)] w fun e w' => e = .returned (.int .i64 (if tokenS (mk m) = true ∧ targetS (mk t) = true then 0 else 2)) ∧ w' = w.alloc (.cells #[.string (mk m), .string (mk t)] 51) := by
  have d3 := token_any (mk m) (by unfold maxLen; rw [mk_size]; omega)
  have d4 := target_any (mk t) (by unfold maxLen; rw [mk_size]; omega)
  unfold reqV
  generalize tokenS (mk m) = T at *
  generalize targetS (mk t) = G at *
  go_enter Tryd.func46, Tryd.ntmps46
  cases T <;> cases G
  all_goals
    go_wp2_with (first
      | (go_at_call 25; with_reducible refine (d3 _).mono ?_; rintro e w1 ⟨rfl, rfl⟩)
      | (go_at_call 27; with_reducible refine (d4 _).mono ?_; rintro e w1 ⟨rfl, rfl⟩))
    go_ret
    exact ⟨rfl, rfl⟩
theorem req_cases (l : List UInt8) : ((partsC 32 l).length ≠ 3 ∧ reqOf l = (([], []), 2)) ∨
    ∃ m t v, partsC 32 l = [m, t, v] ∧ m.length ≤ l.length ∧ t.length ≤ l.length ∧ reqOf l = if v = verL ∧ tokenS (mk m) = true ∧ targetS (mk t) = true then ((m, t), 0) else (([], []), 2) := by
  have z1 := splC_len 32 l
  have z2 := splC_len 32 (splC 32 l).2.1
  cases h1 : (splC 32 l).2.2
  · refine .inl ⟨by rw [partsC_no h1]; simp, ?_⟩
    rw [reqOf, if_neg (by rw [h1]; exact fun h => by cases h.1)]
  cases h2 : (splC 32 (splC 32 l).2.1).2.2
  · refine .inl ⟨by rw [partsC_at h1, partsC_no h2]; simp, ?_⟩
    rw [reqOf, if_neg (by rw [h2]; exact fun h => by cases h.2.1)]
  cases h3 : (splC 32 (splC 32 (splC 32 l).2.1).2.1).2.2
  · refine .inr ⟨(splC 32 l).1, (splC 32 (splC 32 l).2.1).1, (splC 32 (splC 32 l).2.1).2.1, ?_, z1.1, by omega, ?_⟩
    · rw [partsC_at h1, partsC_at h2, partsC_no h3]
    · rw [reqOf, h1, h2]
      simp only [true_and]
  · refine .inl ⟨?_, ?_⟩
    · rw [partsC_at h1, partsC_at h2, partsC_at h3]
      have := partsC_ne 32 (splC 32 (splC 32 (splC 32 l).2.1).2.1).2.1
      intro h
      simp only [List.length_cons] at h
      exact this (List.eq_nil_of_length_eq_zero (by omega))
    · rw [reqOf, if_neg]
      rintro ⟨-, -, h, -⟩
      rw [h] at h3
      exact absurd h3 (by decide)
set_option maxRecDepth 100000 in
set_option maxHeartbeats 2000000 in
theorem parseRequest_any (s : ByteArray) (hs : s.size ≤ 100000) (w : World) (he : Env w) :
    Calls Tryd.prog 43 #[.string s] w fun e w' => e = .returned (.tuple #[reqV (reqOf s.data.toList).1, .int .i64 (reqOf s.data.toList).2]) ∧ Below w.heap.size w w' := by
  have HS := fun (W : World) (h : Env W) => split_any s (by omega) W h
  have HE := Lib.hid he
  clear he
  rcases req_cases s.data.toList with ⟨h1, h2⟩ | ⟨m, t, v, h1, z1, z2, h2⟩
  · rw [h2]
    clear h2
    obtain ⟨xs, hxs⟩ : ∃ xs, (partsC 32 s.data.toList).map mk = xs := ⟨_, rfl⟩
    have hl : xs.length ≠ 3 := by rw [← hxs, List.length_map]; exact h1
    simp only [hxs] at HS
    clear h1 hxs
    replace HS := Lib.hid HS
    have hl3 : ((xs.length : Int) != 3) = true := by simp; omega
    go_enter Tryd.func43, Tryd.ntmps43
    go_wp2_with (go_at_call 79; refine (HS.out _ (HE.out.below ((Below.refl _ _).alloc (Nat.le_refl _) _))).mono ?_; rintro e w1 ⟨u, rfl, ho, hb⟩; obtain ⟨A, c, rfl, hc, hr⟩ := ho.strs; clear ho hr; obtain ⟨c0, c1, f0, f1, n0, l0⟩ := two_of hb; replace hb := Lib.hid hb)
    (try simp only [Exit.inBlock, Exit.then])
    refine bodyPost_ret (v := .tuple #[reqV _, .int .i64 _]) ?_ rfl ⟨rfl, ?_⟩
    · rw [results_cell_tmp rfl]; go_simp; rfl
    · (repeat' (first | exact hb.out.mono (by simp) | exact Below.trans (Below.alloc (Below.refl _ _) (by simp) _) (hb.out.mono (by simp)) | refine Below.alloc ?_ (by first | (simp; done) | (simp; omega)) _ | refine Below.setCell ?_ (by first | (simp; done) | (simp; omega)) _ | refine below_drewN ?_))
  · simp only [h1] at HS
    rw [len_sz] at z1 z2
    replace HS := Lib.hid HS
    have hk := check_any m t (by omega) (by omega)
    obtain ⟨R, hR⟩ : ∃ R, reqOf s.data.toList = R := ⟨_, rfl⟩
    rw [hR] at h2 ⊢
    clear hR
    by_cases c1 : v = verL
    · by_cases c2 : tokenS (mk m) = true ∧ targetS (mk t) = true
      · rw [if_pos ⟨c1, c2⟩] at h2
        rw [h2]
        have hv := (ver_eq v).2 c1
        simp only [if_pos c2, reqV] at hk
        clear c1 c2 h1 h2
        go_enter Tryd.func43, Tryd.ntmps43
        go_wp2_with (first | (go_at_call 79; refine (HS.out _ (HE.out.below ((Below.refl _ _).alloc (Nat.le_refl _) _))).mono ?_; rintro e w1 ⟨u, rfl, ho, hb⟩; obtain ⟨A, c, rfl, hc, hr⟩ := ho.strs; obtain ⟨b, o, rfl, hlt, hx⟩ := hr (by simp); have x0 := hx 0 _ rfl; have x1 := hx 1 _ rfl; have x2 := hx 2 _ rfl; simp only [Nat.add_zero] at x0; clear ho hr hx; obtain ⟨c0, c1, f0, f1, n0, l0⟩ := two_of hb; replace hb := Lib.hid hb))
        go_region
        all_goals go_wp2_with (first | (go_at_call 46; refine (hk _).mono ?_; rintro e w2 ⟨rfl, rfl⟩))
        all_goals (try simp only [Exit.inBlock, Exit.then])
        all_goals refine bodyPost_ret (v := .tuple #[reqV _, .int .i64 _]) ?_ rfl ⟨rfl, ?_⟩
        all_goals first | (rw [results_cell_tmp rfl]; go_simp; rfl) | (repeat' (first | exact hb.out.mono (by simp) | exact Below.trans (Below.alloc (Below.refl _ _) (by simp) _) (hb.out.mono (by simp)) | refine Below.alloc ?_ (by first | (simp; done) | (simp; omega)) _ | refine Below.setCell ?_ (by first | (simp; done) | (simp; omega)) _ | refine below_drewN ?_))
      · rw [if_neg (fun h => c2 h.2)] at h2
        rw [h2]
        have hv := (ver_eq v).2 c1
        simp only [if_neg c2, reqV] at hk
        clear c1 c2 h1 h2
        go_enter Tryd.func43, Tryd.ntmps43
        go_wp2_with (first | (go_at_call 79; refine (HS.out _ (HE.out.below ((Below.refl _ _).alloc (Nat.le_refl _) _))).mono ?_; rintro e w1 ⟨u, rfl, ho, hb⟩; obtain ⟨A, c, rfl, hc, hr⟩ := ho.strs; obtain ⟨b, o, rfl, hlt, hx⟩ := hr (by simp); have x0 := hx 0 _ rfl; have x1 := hx 1 _ rfl; have x2 := hx 2 _ rfl; simp only [Nat.add_zero] at x0; clear ho hr hx; obtain ⟨c0, c1, f0, f1, n0, l0⟩ := two_of hb; replace hb := Lib.hid hb))
        go_region
        all_goals go_wp2_with (first | (go_at_call 46; refine (hk _).mono ?_; rintro e w2 ⟨rfl, rfl⟩))
        all_goals (try simp only [Exit.inBlock, Exit.then])
        all_goals refine bodyPost_ret (v := .tuple #[reqV _, .int .i64 _]) ?_ rfl ⟨rfl, ?_⟩
        all_goals first | (rw [results_cell_tmp rfl]; go_simp; rfl) | (repeat' (first | exact hb.out.mono (by simp) | exact Below.trans (Below.alloc (Below.refl _ _) (by simp) _) (hb.out.mono (by simp)) | refine Below.alloc ?_ (by first | (simp; done) | (simp; omega)) _ | refine Below.setCell ?_ (by first | (simp; done) | (simp; omega)) _ | refine below_drewN ?_))
    · rw [if_neg (fun h => c1 h.1)] at h2
      rw [h2]
      have hv : ((mk v).toList == [72, 84, 84, 80, 47, 49, 46, 49]) = false := by simpa using fun h => c1 ((ver_eq v).1 h)
      clear c1 h1 h2
      go_enter Tryd.func43, Tryd.ntmps43
      go_wp2_with (first | (go_at_call 79; refine (HS.out _ (HE.out.below ((Below.refl _ _).alloc (Nat.le_refl _) _))).mono ?_; rintro e w1 ⟨u, rfl, ho, hb⟩; obtain ⟨A, c, rfl, hc, hr⟩ := ho.strs; obtain ⟨b, o, rfl, hlt, hx⟩ := hr (by simp); have x0 := hx 0 _ rfl; have x1 := hx 1 _ rfl; have x2 := hx 2 _ rfl; simp only [Nat.add_zero] at x0; clear ho hr hx; obtain ⟨c0, c1, f0, f1, n0, l0⟩ := two_of hb; replace hb := Lib.hid hb))
      all_goals (try simp only [Exit.inBlock, Exit.then])
      all_goals refine bodyPost_ret (v := .tuple #[reqV _, .int .i64 _]) ?_ rfl ⟨rfl, ?_⟩
      all_goals first | (rw [results_cell_tmp rfl]; go_simp; rfl) | (repeat' (first | exact hb.out.mono (by simp) | exact Below.trans (Below.alloc (Below.refl _ _) (by simp) _) (hb.out.mono (by simp)) | refine Below.alloc ?_ (by first | (simp; done) | (simp; omega)) _ | refine Below.setCell ?_ (by first | (simp; done) | (simp; omega)) _ | refine below_drewN ?_))
end Go.Proofs.YtkbjklnkeammiaaDoor.Oct
