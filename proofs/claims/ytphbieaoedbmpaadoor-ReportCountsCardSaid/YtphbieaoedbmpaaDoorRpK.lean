/- Report.Lines, Share at one. -/
import Derived.Test.YtphbieaoedbmpaaDoorRpJ
import Derived.WalkLawsBesides
namespace Go.Proofs.YtphbieaoedbmpaaDoor.Rp
open Go.RowKit Go.Maps Go.Sort Go.Shelf Go.Proofs.YtphbieaoedbmpaaDoor.Oct
set_option linter.unusedVariables false
/-- A note's numbers may be printed; its texts are short. -/
def Ok (x : Nt) : Prop := x.now ≤ 9223372036854775807 ∧ x.kind ≤ 9223372036854775807 ∧ x.conn ≤ 9223372036854775807 ∧ x.name.length ≤ 1000 ∧ x.text.length ≤ 1000
set_option maxRecDepth 100000 in
set_option maxHeartbeats 1000000 in
theorem lines_any {w : World} {rb g0 : Nat} {ns : List Nt} {nv : Value} {kb cb : Nat} {DK DC : DataW Unit} (h : RM w rb g0 ns nv kb cb DK DC) (hE : WEnv w) (hN : ns.length ≤ 1000) (hO : ∀ x ∈ ns, Ok x) :
    Calls Tryd.prog 17 #[.pointer (some ⟨rb, 0, none⟩)] w fun e w' => ∃ u, e = .returned u ∧ OwnStrs w' w.heap.size u (ns.map lineL) ∧ Below w.heap.size w w' := by
  show Calls _ _ _ _ fun e w' => ∃ u, e = .returned u ∧ w'.ownsRow w.heap.size 9 1 u (ns.map lineL).length ((ns.map lineL).map sV) ∧ Below w.heap.size w w'
  obtain ⟨i0, hi, hz0, hz1, hz2⟩ := info_parts info9
  obtain ⟨A, c, rfl, hc, hr⟩ := OwnN.nts ntP_len h.row
  have c0 : w.cell? ⟨rb, 0, none⟩ = some (.slice A ns.length c) := h.blk.cell rfl
  have hhE := Lib.hid hE
  clear h hE
  have hb0 : Below w.heap.size w w := Below.refl _ _
  have ho0 : w.ownsRow w.heap.size 9 1 (.slice none 0 0) 0 ((ns.take 0).map (fun x => sV (lineL x))) := World.ownsRow_nil _ _ _ _
  rw [List.map_map, List.length_map]
  show Calls _ _ _ _ fun e w' => ∃ u, e = .returned u ∧ w'.ownsRow w.heap.size 9 1 u ns.length (ns.map (fun x => sV (lineL x))) ∧ Below w.heap.size w w'
  go_enter Tryd.func17, Tryd.ntmps17
  go_wp2
  generalize hg : w.heap.size = g at *
  go_loopw [3, 11] (fun u i wr => ∃ (k : Nat) (u0 : Value), u0 = u ∧ k ≤ ns.length ∧ i = .int .i64 k ∧ wr.ownsRow g 9 1 u k ((ns.take k).map (fun x => sV (lineL x))) ∧ Below g w wr) (fun _ i _ => ns.length - (intOf i).toNat)
  case atStart => exact ⟨0, _, rfl, Nat.zero_le _, rfl, ho0, hb0⟩
  case round =>
    obtain ⟨k, u, rfl, hk, rfl, hown, hb⟩ := hrel
    have hgw : g ≤ wr.heap.size := by have := hb.size; omega
    by_cases c1 : k < ns.length
    · obtain ⟨b, o, rfl, hlt, hx⟩ := hr (by omega)
      have hx0 := hx k ns[k] (by simp [c1])
      have hc0 := (hb.cell (p := ⟨b, o + k * 5, none⟩) (by omega)).trans (hx0 0 _ rfl)
      have hc1 := (hb.cell (p := ⟨b, o + k * 5 + 1, none⟩) (by omega)).trans (hx0 1 _ rfl)
      have hc2 := (hb.cell (p := ⟨b, o + k * 5 + 2, none⟩) (by omega)).trans (hx0 2 _ rfl)
      have hc3 := (hb.cell (p := ⟨b, o + k * 5 + 3, none⟩) (by omega)).trans (hx0 3 _ rfl)
      have hc4 := (hb.cell (p := ⟨b, o + k * 5 + 4, none⟩) (by omega)).trans (hx0 4 _ rfl)
      have hnx := Lib.hid (List.take_succ_eq_append_getElem c1)
      have hok := hO ns[k] (by simp)
      have hEw := Lib.hid (fun (W : World) (hB : Below g w W) => hhE.out.below (by rw [hg]; exact hB))
      have dL := Lib.hid (fun (W : World) (hB : Below g w W) => line_any ns[k] W (hEw.out W hB) hok.1 hok.2.1 hok.2.2.1 hok.2.2.2.1 hok.2.2.2.2)
      generalize ns[k] = x at *
      clear hx0 hx hok
      go_wp2_with (first
        | (go_at_call 24; refine (dL.out _ (hb.alloc hgw _)).mono ?_; rintro e w1 ⟨rfl, hb1⟩; have hbb := Lib.hid hb1)
        | (at_builtin; refine wpList_append_own _ rfl _ _ 35 rfl g 9 i0 (.string ⟨#[]⟩) 1 16 Tryd.underlying35 hi hz0 hz1 hz2 rfl (by decide) _ _ _ rfl (((hown.alloc _).kept (below_grown hbb.out) (by cases u.ownBlock <;> simp)).alloc _) ⟨_, 0, none⟩ 1 1 [.string (mk (lineL x))] rfl rfl (cell_one_new _ _ _) (by simp [Value.oneCell']) (by unfold maxLen; omega) (by omega) (by have := hbb.out.size; simp at this ⊢; omega) ?_; intro v' w2 hown' hgrow _))
      have hz1' : wr.heap.size + 1 ≤ w1.heap.size := by have := hbb.out.size; simpa using this
      go_roundw
      case rel =>
        refine ⟨k + 1, _, rfl, by omega, by go_num, ?_, ?_⟩
        · rw [hnx.out, List.map_append]
          exact hown'
        · exact grow_low ((((hb.alloc hgw _).trans (hbb.out.mono (by simp; omega)))).alloc (by omega) _) (by simp; omega) hgrow (fun b e => (hown.lt b e).1)
      case measure => simp [intOf]; omega
    · have hk : k = ns.length := by omega
      subst hk
      rw [List.take_of_length_le (Nat.le_refl _)] at hown
      go_wp2
      go_ret
      refine ⟨u, rfl, ?_, ?_⟩ <;> rw [hg]
      · exact hown
      · exact hb
theorem one_f : floatOfInt FloatKind.f64 1 = 4607182418800017408 := by decide +kernel
theorem one_quo (W : World) : (binOp BinOp.quo 48 (.float .f64 4607182418800017408) (.float .f64 4607182418800017408)).run Tryd.prog W = .ok (.float .f64 4607182418800017408) W := by kernel_rfl
theorem one_zero (W : World) : (binOp BinOp.eql 48 (.float .f64 4607182418800017408) (.float .f64 0)).run Tryd.prog W = .ok (.bool false) W := by kernel_rfl
theorem one_one (W : World) : (binOp BinOp.eql 48 (.float .f64 4607182418800017408) (.float .f64 4607182418800017408)).run Tryd.prog W = .ok (.bool true) W := by kernel_rfl
set_option maxRecDepth 100000 in
theorem plain_one (w : World) : Calls Tryd.prog 26 #[.float .f64 4607182418800017408] w fun e w' => e = .returned (.float .f64 4607182418800017408) ∧ w' = w := by
  have h1 := one_zero
  go_enter Tryd.func26, Tryd.ntmps26
  go_wp2
  go_ret
  exact ⟨rfl, rfl⟩
set_option maxRecDepth 100000 in
theorem share_one {w : World} {rb g : Nat} {ns : List Nt} {nv : Value} {kb cb : Nat} {DK DC : DataW Unit} (h : RM w rb g ns nv kb cb DK DC) (nm : List UInt8) (hn : nm.length ≤ 1000) (h1 : choN nm ns = 1) (h2 : cntN 10 ns = 1) :
    Calls Tryd.prog 21 #[.pointer (some ⟨rb, 0, none⟩), .string (mk nm)] w fun e w' => e = .returned (.float .f64 4607182418800017408) ∧ Below w.heap.size w w' := by
  have dC := chosen_any h nm hn
  have dN := fun W (hb : Below w.heap.size w W) => count_any (RMX.below h hb) 10 rfl
  rw [h1] at dC
  simp only [h2] at dN
  have hf1 := one_f
  have hq1 := one_quo
  clear h h1 h2
  go_enter Tryd.func21, Tryd.ntmps21
  go_wp2_with (first
    | (go_at_call 10; refine dC.mono ?_; rintro e w1 ⟨rfl, hb1⟩)
    | (go_at_call 8; refine (dN _ hb1).mono ?_; rintro e w2 ⟨rfl, hb2⟩)
    | (go_at_call 26; refine (plain_one _).mono ?_; rintro e w3 ⟨rfl, rfl⟩))
  go_ret
  exact ⟨rfl, hb1.trans (hb2.mono hb1.size)⟩
end Go.Proofs.YtphbieaoedbmpaaDoor.Rp
