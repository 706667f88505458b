/- The walks of stewardref22 and of the laws RampWeights, RampNext, over the printed contracts of ramp. -/
import Derived.Test.YtfhhifjfjgekjaaPRampRisesx2
import Derived.Test.YtfhhifjfjgekjaaRampLaw
import Derived.WalkKit
import Derived.Lib.Hide
namespace Go.Proofs.Ytfhhifjfjgekjaa.RampWalk
open Go.RowKit Go.Proofs.YtfhhifjfjgekjaaW.PrintWords Go.Proofs.YtfhhifjfjgekjaaW.PrintLast Go.Proofs.YtfhhifjfjgekjaaW.PrintMore Go.Proofs.Ytfhhifjfjgekjaa.PRampRises Go.Proofs.Ytfhhifjfjgekjaa.RampLaw
set_option linter.unusedVariables false
set_option linter.unusedSimpArgs false

theorem mx_eq (a b : Int) : mx a b = max a b := by unfold mx; omega
theorem mn_eq (a b : Int) : mn a b = min a b := by unfold mn; omega
theorem max2_mx (k k' : IntKind) (x y : Int) : Builtin.max2 (.int k x) (.int k' y) = pure (.int k (mx x y)) := max2_int k k' x y
theorem min2_mn (k k' : IntKind) (x y : Int) : Builtin.min2 (.int k x) (.int k' y) = pure (.int k (mn x y)) := min2_int k k' x y
attribute [local go_sem] max2_mx min2_mn max_two min_two
theorem ret_int {k : IntKind} {a b : Int} (h : a = b) : Ending.returned (.int k a) = .returned (.int k b) := by rw [h]

def tick (n : Int) : Int := mx 0 (mn n 1099511627776)

set_option maxHeartbeats 400000 in
theorem tick_any (a : Int) (w : World) :
    Calls Try.prog 36 #[.int .i64 a] w fun e w' => e = .returned (.int .i64 (tick a)) ∧ w = w' := by
  go_enter Try.func36, Try.ntmps36
  go_wp2
  go_ret
  exact ⟨rfl, rfl⟩

def ref (weight since now slow : Int) : Int :=
  R (mx 1 (mn weight 65535)) (mx 0 (mn slow 1048576)) (tick now - tick since)

theorem wrap_prod {W S g : Int} (h1 : 1 ≤ W) (h2 : W ≤ 65535) (h4 : S ≤ 1048576) (hg : 0 ≤ g) (hl : g < S) : wrap64 (W * g) = W * g ∧ 0 ≤ W * g := by
  have a : W * g ≤ 65535 * g := Int.mul_le_mul_of_nonneg_right h2 hg
  have b : 0 ≤ W * g := Int.mul_nonneg (by omega) hg
  exact ⟨by unfold wrap64; omega, b⟩

set_option maxHeartbeats 800000 in
theorem ref_any (a b c d : Int) (w : World) :
    Calls Try.prog 12 #[.int .i64 a, .int .i64 b, .int .i64 c, .int .i64 d] w fun e w' => e = .returned (.int .i64 (ref a b c d)) ∧ w = w' := by
  have ht : ∀ n, 0 ≤ tick n ∧ tick n ≤ 1099511627776 := fun n => by unfold tick mx mn; omega
  obtain ⟨t1, t2⟩ := ht c
  obtain ⟨t3, t4⟩ := ht b
  have H : ref a b c d = R (mx 1 (mn a 65535)) (mx 0 (mn d 1048576)) (tick c - tick b) := rfl
  rw [H]
  clear H ht
  have w1 : 1 ≤ mx 1 (mn a 65535) := by unfold mx mn; omega
  have w2 : mx 1 (mn a 65535) ≤ 65535 := by unfold mx mn; omega
  have s1 : 0 ≤ mx 0 (mn d 1048576) := by unfold mx mn; omega
  have s2 : mx 0 (mn d 1048576) ≤ 1048576 := by unfold mx mn; omega
  generalize hW : mx 1 (mn a 65535) = W at *
  generalize hS : mx 0 (mn d 1048576) = S at *
  by_cases c0 : S = 0
  · have c0' : (S == 0) = true := by simpa using c0
    have hR : Hid (R W S (tick c - tick b) = W) := by unfold R; rw [if_pos (Or.inl c0)]; rfl
    clear c0
    go_enter Try.func12, Try.ntmps12
    go_wp2_with (first | (go_at_call 36; refine (tick_any _ _).mono ?_; rintro e w1 ⟨rfl, rfl⟩))
    go_ret
    exact ⟨ret_int (by rw [hR.out]), rfl⟩
  · have c0' : (S == 0) = false := by simpa using c0
    by_cases c1 : S ≤ tick c - tick b
    · have hR : Hid (R W S (tick c - tick b) = W) := by unfold R; rw [if_pos (Or.inr c1)]; rfl
      clear c0
      go_enter Try.func12, Try.ntmps12
      go_wp2_with (first | (go_at_call 36; refine (tick_any _ _).mono ?_; rintro e w1 ⟨rfl, rfl⟩))
      go_ret
      exact ⟨ret_int (by rw [hR.out]), rfl⟩
    · have c1' : tick c - tick b < S := by omega
      by_cases c2 : tick c - tick b < 0
      · have hR : Hid (R W S (tick c - tick b) = mx 1 (W * 0 / S)) := by unfold R; rw [if_neg (by omega), mx_eq, Int.max_eq_left (a := 0) (by omega)]; rfl
        have hs : 1 ≤ S := by omega
        clear c0 c1
        go_enter Try.func12, Try.ntmps12
        go_wp2_with (first | (go_at_call 36; refine (tick_any _ _).mono ?_; rintro e w1 ⟨rfl, rfl⟩))
        go_ret
        exact ⟨ret_int (by rw [hR.out]; simp), rfl⟩
      · have c2' : 0 ≤ tick c - tick b := by omega
        obtain ⟨p1, p2⟩ := wrap_prod (g := tick c - tick b) w1 w2 s2 c2' c1'
        have hR : Hid (R W S (tick c - tick b) = mx 1 (W * (tick c - tick b) / S)) := by unfold R; rw [if_neg (by omega), mx_eq, Int.max_eq_right (a := 0) (by omega)]; rfl
        have hs : 1 ≤ S := by omega
        have hq : W * (tick c - tick b) / S ≤ 68718428160 := by
          have : W * (tick c - tick b) / S ≤ W * (tick c - tick b) := Int.ediv_le_self _ p2
          have : W * (tick c - tick b) ≤ 65535 * 1048576 := Int.mul_le_mul w2 (by omega) (by omega) (by omega)
          omega
        have hq0 : 0 ≤ W * (tick c - tick b) / S := Int.ediv_nonneg p2 (by omega)
        clear c0 c1 c2
        go_enter Try.func12, Try.ntmps12
        go_wp2_with (first | (go_at_call 36; refine (tick_any _ _).mono ?_; rintro e w1 ⟨rfl, rfl⟩))
        go_ret
        exact ⟨ret_int (by rw [hR.out, Int.tdiv_eq_ediv_of_nonneg p2]; congr 1; unfold wrap64; omega), rfl⟩

theorem clip_f (a b c : Int) : ramp_clip.f a b c = some (mx b (mn a c)) := rfl
theorem of_f (a b c : Int) : ramp_of.f a b c = some (mx 1 (mn a 65535), tick b, mx 0 (mn c 1048576)) := rfl
theorem at_f {W S g : Int} (s : Int) (h1 : 1 ≤ W) (h2 : W ≤ 65535) (h3 : 0 ≤ S) (h4 : S ≤ 1048576) : ramp_slope_at.f W s S g = some (R W S g) := by
  unfold ramp_slope_at.f R
  by_cases c0 : S = 0
  · rw [if_pos c0, if_pos (Or.inl c0)]
  · rw [if_neg c0]
    by_cases c1 : S ≤ g
    · rw [if_pos c1, if_pos (Or.inr c1)]
    · rw [if_neg c1, if_neg (by omega), mx_eq, mx_eq]
      obtain ⟨p1, p2⟩ := wrap_prod (g := max 0 g) (S := S) h1 h2 h4 (by omega) (by omega)
      rw [p1, Int.tdiv_eq_ediv_of_nonneg p2]
      have hq : W * max 0 g / S ≤ 68718428160 := by
        have : W * max 0 g / S ≤ W * max 0 g := Int.ediv_le_self _ p2
        have : W * max 0 g ≤ 65535 * 1048576 := Int.mul_le_mul h2 (by omega) (by omega) (by omega)
        omega
      have hq0 : 0 ≤ W * max 0 g / S := Int.ediv_nonneg p2 (by omega)
      congr 2
      unfold wrap64
      omega

theorem tick_bd (n : Int) : 0 ≤ tick n ∧ tick n ≤ 1099511627776 := by unfold tick mx mn; omega
theorem weight_f (a b c d : Int) : ramp_Weight.f a b c d = some (ref a b c d) := by
  have w1 : 1 ≤ mx 1 (mn a 65535) := by unfold mx mn; omega
  have w2 : mx 1 (mn a 65535) ≤ 65535 := by unfold mx mn; omega
  have s1 : 0 ≤ mx 0 (mn d 1048576) := by unfold mx mn; omega
  have s2 : mx 0 (mn d 1048576) ≤ 1048576 := by unfold mx mn; omega
  have hb := tick_bd b
  have hc := tick_bd c
  have e1 : mx 0 (mn c 1099511627776) = tick c := rfl
  have hw : wrap64 (tick c - tick b) = tick c - tick b := by unfold wrap64; omega
  unfold ramp_Weight.f ref
  rw [of_f]
  simp only [Option.bind_some, clip_f, e1, hw, at_f _ w1 w2 s1 s2]

theorem awake_f : stewardlaw22_awake.f 20 = some true := by decide +kernel

theorem bcell {W w1 : World} (hb : Below W.heap.size W w1) : (∀ b o, b < W.heap.size → w1.cell? ⟨b, o, none⟩ = W.cell? ⟨b, o, none⟩) ∧ (∀ b o, b < W.heap.size → w1.frozen? ⟨b, o, none⟩ = W.frozen? ⟨b, o, none⟩) :=
  ⟨fun b o h => hb.cell (p := ⟨b, o, none⟩) h, fun b o h => hb.frozen (p := ⟨b, o, none⟩) h⟩

theorem ref_bd (a b c d : Int) : 1 ≤ ref a b c d ∧ ref a b c d ≤ 65535 := by
  have w1 : 1 ≤ mx 1 (mn a 65535) := by unfold mx mn; omega
  have w2 : mx 1 (mn a 65535) ≤ 65535 := by unfold mx mn; omega
  have s1 : 0 ≤ mx 0 (mn d 1048576) := by unfold mx mn; omega
  have h1 := R_ge (sl := mx 0 (mn d 1048576)) (g := tick c - tick b) w1
  have h2 := R_le (g := tick c - tick b) w1 s1
  unfold ref
  omega

set_option maxRecDepth 100000 in
set_option maxHeartbeats 800000 in
theorem weights_any (a b c d : Int) (w : World) :
    Calls Try.prog 4 #[.agg #[.int .i64 a, .int .i64 b, .int .i64 c, .int .i64 d]] w fun e w' => e = .returned (.bool true) ∧ Below w.heap.size w w' := by
  obtain ⟨r1, r2⟩ := ref_bd a b c d
  have hu := Try.underlying23
  go_enter Try.func4, Try.ntmps4
  go_wp2_with (first
    | (go_at_call 10; refine (stewardlaw22_awake.calls 20 true _ awake_f).mono ?_; rintro e w1 ⟨rfl, hb⟩; obtain ⟨hc, hf⟩ := bcell hb; have hs : w.heap.size < w1.heap.size := by (have := hb.size; simp at this; omega))
    | (go_at_call 13; refine (ramp_Weight.calls a b c d (ref a b c d) _ (weight_f a b c d)).mono ?_; rintro e w2 ⟨rfl, hb2⟩; obtain ⟨hc2, hf2⟩ := bcell hb2; have hs2 : w.heap.size < w2.heap.size := by (have := hb2.size; omega))
    | (go_at_call 12; refine (ref_any _ _ _ _ _).mono ?_; rintro e w3 ⟨rfl, rfl⟩))
  go_ret
  exact ⟨rfl, (((Below.refl _ _).alloc (Nat.le_refl _) _).trans (hb.mono (by simp))).trans (hb2.mono (by omega))⟩

theorem and_bd (a : Int) (m : Nat) (hm : m < 4611686018427387904) : 0 ≤ Go.bits .and .i64 a m ∧ Go.bits .and .i64 a m ≤ m := by
  have h : Go.bits .and .i64 a m = IntKind.i64.wrap ((BitVec.ofInt 64 a &&& BitVec.ofInt 64 (m : Int)).toNat : Nat) := rfl
  rw [h, BitVec.toNat_and]
  have h2 := Nat.and_le_right (n := (BitVec.ofInt 64 a).toNat) (m := (BitVec.ofInt 64 (m : Int)).toNat)
  have h3 : (BitVec.ofInt 64 (m : Int)).toNat = m := by rw [BitVec.ofInt_natCast, BitVec.toNat_ofNat, Nat.mod_eq_of_lt (by omega)]
  rw [h3] at h2 ⊢
  rw [IntKind.wrap_i64]
  omega

theorem next_f (a b c d : Int) : ramp_Next.f a b c d = if ref a b c d = mx 1 (mn a 65535) then some (0, false) else
    if tick b + min (ticks (mx 1 (mn a 65535)) (mx 0 (mn d 1048576)) (ref a b c d)) (mx 0 (mn d 1048576)) > 1099511627776 then some (0, false)
    else some (tick b + min (ticks (mx 1 (mn a 65535)) (mx 0 (mn d 1048576)) (ref a b c d)) (mx 0 (mn d 1048576)), true) := by
  obtain ⟨r1, r2⟩ := ref_bd a b c d
  have w1 : 1 ≤ mx 1 (mn a 65535) := by unfold mx mn; omega
  have w2 : mx 1 (mn a 65535) ≤ 65535 := by unfold mx mn; omega
  have s1 : 0 ≤ mx 0 (mn d 1048576) := by unfold mx mn; omega
  have s2 : mx 0 (mn d 1048576) ≤ 1048576 := by unfold mx mn; omega
  have hb := tick_bd b
  have hc := tick_bd c
  have e1 : mx 0 (mn c 1099511627776) = tick c := rfl
  have hw : wrap64 (tick c - tick b) = tick c - tick b := by unfold wrap64; omega
  have hr : R (mx 1 (mn a 65535)) (mx 0 (mn d 1048576)) (tick c - tick b) = ref a b c d := rfl
  unfold ramp_Next.f
  rw [of_f]
  simp only [Option.bind_some, clip_f, e1, hw, at_f _ w1 w2 s1 s2, hr]
  generalize ref a b c d = has at *
  generalize mx 1 (mn a 65535) = W at *
  generalize mx 0 (mn d 1048576) = S at *
  have hp0 : 0 ≤ (has + 1) * S := Int.mul_nonneg (by omega) s1
  have hp1 : (has + 1) * S ≤ 65536 * 1048576 := Int.mul_le_mul (by omega) s2 s1 (by omega)
  have q1 : wrap64 (has + 1) = has + 1 := by unfold wrap64; omega
  have q2 : wrap64 ((has + 1) * S) = (has + 1) * S := by unfold wrap64; omega
  have q3 : wrap64 ((has + 1) * S + W) = (has + 1) * S + W := by unfold wrap64; omega
  have q4 : wrap64 ((has + 1) * S + W - 1) = (has + 1) * S + W - 1 := by unfold wrap64; omega
  have q5 : ((has + 1) * S + W - 1).tdiv W = ticks W S has := by unfold ticks; exact Int.tdiv_eq_ediv_of_nonneg (by omega)
  have t0 : 0 ≤ ticks W S has := Int.ediv_nonneg (by omega) (by omega)
  have t1 : ticks W S has ≤ (has + 1) * S + W - 1 := Int.ediv_le_self _ (by omega)
  have q6 : wrap64 (ticks W S has) = ticks W S has := by unfold wrap64; omega
  have q7 : mn (ticks W S has) S = min (ticks W S has) S := mn_eq _ _
  have q8 : wrap64 (tick b + min (ticks W S has) S) = tick b + min (ticks W S has) S := by unfold wrap64; omega
  rw [q1, q2, q3, q4, q5, q6, q7, q8, if_neg (show ¬ W = 0 by omega)]

/-- What the law says of Next, of numbers alone. -/
theorem next_law (a b c SL : Int) (h0 : 0 ≤ SL) (h1 : SL ≤ 255) :
    (∃ at_ : Int, ramp_Next.f a b c SL = some (at_, true) ∧ mx 0 (mn c 1099511627776) < at_ ∧ at_ ≤ 1099511627776 ∧ ref a b at_ SL ≠ ref a b (mx 0 (mn c 1099511627776)) SL ∧ ref a b (at_ - 1) SL = ref a b (mx 0 (mn c 1099511627776)) SL) ∨
    (ramp_Next.f a b c SL = some (0, false) ∧ ref a b (mx (mx 0 (mn c 1099511627776)) (mn (wrap64 (mx 0 (mn b 1099511627776) + SL)) 1099511627776)) SL = ref a b (mx 0 (mn c 1099511627776)) SL) := by
  have e1 : mx 0 (mn c 1099511627776) = tick c := rfl
  have e2 : mx 0 (mn b 1099511627776) = tick b := rfl
  have hb := tick_bd b
  have hc := tick_bd c
  have hw : wrap64 (tick b + SL) = tick b + SL := by unfold wrap64; omega
  have hS : mx 0 (mn SL 1048576) = SL := by unfold mx mn; omega
  have htt : ∀ n, 0 ≤ n → n ≤ 1099511627776 → tick n = n := fun n _ _ => by unfold tick mx mn; omega
  have w1 : 1 ≤ mx 1 (mn a 65535) := by unfold mx mn; omega
  have hr : ∀ n, ref a b n SL = R (mx 1 (mn a 65535)) SL (tick n - tick b) := fun n => by unfold ref; rw [hS]
  have hc' : ref a b (tick c) SL = ref a b c SL := by rw [hr, hr, htt (tick c) hc.1 hc.2]
  rw [next_f, hS, e1, e2, hw, hc']
  have hlast : mx (tick c) (mn (tick b + SL) 1099511627776) = max (tick c) (min (tick b + SL) 1099511627776) := by rw [mx_eq, mn_eq]
  rw [hlast]
  simp only [hr]
  generalize mx 1 (mn a 65535) = W at *
  by_cases c0 : R W SL (tick c - tick b) = W
  · right
    rw [if_pos c0]
    refine ⟨rfl, ?_⟩
    have m1 := R_mono (g := tick c - tick b) (g' := tick (max (tick c) (min (tick b + SL) 1099511627776)) - tick b) w1 h0 (by rw [htt (max _ _) (by omega) (by omega)]; omega)
    have m2 := R_le (g := tick (max (tick c) (min (tick b + SL) 1099511627776)) - tick b) w1 h0
    omega
  · rw [if_neg c0]
    obtain ⟨k1, k2, k3⟩ := ticks_at w1 h0 c0
    generalize hT : min (ticks W SL (R W SL (tick c - tick b))) SL = T at *
    have hTS : T ≤ SL := by omega
    by_cases c1 : tick b + T > 1099511627776
    · right
      rw [if_pos c1]
      refine ⟨rfl, ?_⟩
      rw [htt (max _ _) (by omega) (by omega)]
      exact k3 _ (by omega) (by omega)
    · left
      rw [if_neg c1]
      refine ⟨_, rfl, by omega, by omega, ?_, ?_⟩
      · rw [htt (tick b + T) (by omega) (by omega), show tick b + T - tick b = T by omega]
        exact k1
      · rw [htt (tick b + T - 1) (by omega) (by omega)]
        exact k3 _ (by omega) (by omega)

set_option maxRecDepth 100000 in
set_option maxHeartbeats 1600000 in
theorem next_any (a b c d : Int) (w : World) :
    Calls Try.prog 3 #[.agg #[.int .i64 a, .int .i64 b, .int .i64 c, .int .i64 d]] w fun e w' => e = .returned (.bool true) ∧ Below w.heap.size w w' := by
  have hu := Try.underlying23
  have hbd := and_bd d 255 (by decide)
  generalize hSL : Go.bits .and .i64 d 255 = SL at *
  have b0 : 0 ≤ SL := hbd.1
  have b1 : SL ≤ 255 := hbd.2
  clear hbd
  have n0 : 0 ≤ mx 0 (mn c 1099511627776) := by unfold mx mn; omega
  have n1 : mx 0 (mn c 1099511627776) ≤ 1099511627776 := by unfold mx mn; omega
  have n2 : 0 ≤ mx 0 (mn b 1099511627776) := by unfold mx mn; omega
  have n3 : mx 0 (mn b 1099511627776) ≤ 1099511627776 := by unfold mx mn; omega
  have hw : wrap64 (mx 0 (mn b 1099511627776) + SL) = mx 0 (mn b 1099511627776) + SL := by unfold wrap64; omega
  rcases next_law a b c SL b0 b1 with ⟨at_, h1, h2, h3, h4, h5⟩ | ⟨h1, h2⟩
  · have H1 := Lib.hid h1
    have H5 := Lib.hid h5
    have h4' : (ref a b at_ SL == ref a b (mx 0 (mn c 1099511627776)) SL) = false := by simpa using h4
    have h6 : (ref a b (at_ - 1) SL == ref a b (mx 0 (mn c 1099511627776)) SL) = true := by simpa using h5
    clear h1 h4 h5 hw
    generalize mx 0 (mn b 1099511627776) = B0 at *
    go_enter Try.func3, Try.ntmps3
    go_wp2_with (first
    | (go_at_call 10; refine (stewardlaw22_awake.calls 20 true _ awake_f).mono ?_; rintro e w1 ⟨rfl, hb⟩; obtain ⟨hc, hf⟩ := bcell hb; have hs : w.heap.size < w1.heap.size := by (have := hb.size; simp at this; omega))
    | (go_at_call 11; refine (ramp_Next.calls a b c SL at_ true _ H1.out).mono ?_; rintro e w2 ⟨rfl, hb2⟩; obtain ⟨hc2, hf2⟩ := bcell hb2; have hs2 : w.heap.size < w2.heap.size := by (have := hb2.size; omega))
    | (go_at_call 12; refine (ref_any _ _ _ _ _).mono ?_; rintro e w3 ⟨rfl, rfl⟩))
    go_ret
    exact ⟨rfl, (((Below.refl _ _).alloc (Nat.le_refl _) _).trans (hb.mono (by simp))).trans (hb2.mono (by omega))⟩
  · rw [hw] at h2
    have H1 := Lib.hid h1
    have h6 : (ref a b (mx (mx 0 (mn c 1099511627776)) (mn (mx 0 (mn b 1099511627776) + SL) 1099511627776)) SL == ref a b (mx 0 (mn c 1099511627776)) SL) = true := by simpa using h2
    clear h1 h2 hw
    go_enter Try.func3, Try.ntmps3
    go_wp2_with (first
    | (go_at_call 10; refine (stewardlaw22_awake.calls 20 true _ awake_f).mono ?_; rintro e w1 ⟨rfl, hb⟩; obtain ⟨hc, hf⟩ := bcell hb; have hs : w.heap.size < w1.heap.size := by (have := hb.size; simp at this; omega))
    | (go_at_call 11; refine (ramp_Next.calls a b c SL 0 false _ H1.out).mono ?_; rintro e w2 ⟨rfl, hb2⟩; obtain ⟨hc2, hf2⟩ := bcell hb2; have hs2 : w.heap.size < w2.heap.size := by (have := hb2.size; omega))
    | (go_at_call 12; refine (ref_any _ _ _ _ _).mono ?_; rintro e w3 ⟨rfl, rfl⟩))
    go_ret
    exact ⟨rfl, (((Below.refl _ _).alloc (Nat.le_refl _) _).trans (hb.mono (by simp))).trans (hb2.mono (by omega))⟩

theorem rises_f (a b c d m : Int) : stewardlaw22_RampRises.f 20 a b c d m = some true := by
  have w1 : 1 ≤ mx 1 (mn a 65535) := by unfold mx mn; omega
  have s1 : 0 ≤ mx 0 (mn d 1048576) := by unfold mx mn; omega
  have s2 : mx 0 (mn d 1048576) ≤ 1048576 := by unfold mx mn; omega
  have hb := and_bd b 16777215 (by decide)
  have hc := and_bd c 16777215 (by decide)
  have hm := and_bd m 65535 (by decide)
  unfold stewardlaw22_RampRises.f
  rw [awake_f]
  simp only [Option.bind_some, if_true, weight_f]
  simp only [Int.cast_ofNat_Int] at hb hc hm
  generalize Go.bits .and .i64 b 16777215 = B at *
  generalize Go.bits .and .i64 c 16777215 = C at *
  generalize Go.bits .and .i64 m 65535 = M at *
  have htt : ∀ n, 0 ≤ n → n ≤ 1099511627776 → tick n = n := fun n _ _ => by unfold tick mx mn; omega
  have q1 : wrap64 (C + M) = C + M := by unfold wrap64; omega
  have q2 : wrap64 (B + mx 0 (mn d 1048576)) = B + mx 0 (mn d 1048576) := by unfold wrap64; omega
  rw [q1, q2]
  unfold ref
  rw [htt B (by omega) (by omega), htt C (by omega) (by omega), htt (C + M) (by omega) (by omega), htt (B + mx 0 (mn d 1048576)) (by omega) (by omega)]
  generalize mx 1 (mn a 65535) = W at *
  generalize mx 0 (mn d 1048576) = S at *
  rw [if_pos (R_mono w1 s1 (by omega)), if_pos (R_le w1 s1), R_whole (g := B + S - B) (by omega)]
  simp

theorem rises_any (a b c d m : Int) (w : World) :
    Calls Try.prog 5 #[.agg #[.int .i64 a, .int .i64 b, .int .i64 c, .int .i64 d], .int .i64 m] w fun e w' => e = .returned (.bool true) ∧ Below w.heap.size w w' :=
  stewardlaw22_RampRises.calls 20 a b c d m true w (rises_f a b c d m)

end Go.Proofs.Ytfhhifjfjgekjaa.RampWalk
