/- Build (printed by genJ2.py). -/
import Derived.Test.YtclngmjfhlindaaMaI
import Derived.Test.YtclngmjfhlindaaMaG
import Derived.Test.YtclngmjfhlindaaMaF
import Derived.Deep.RegionLaw
namespace Go.Proofs.Ytclngmjfhlindaa.Ma
open Go.RowKit Go.Proofs.Ytclngmjfhlindaa.Sip
set_option linter.unusedVariables false
/-- Blocks below n0, but those of X, read as they did. -/
structure Kp (n0 : Nat) (X : Nat → Prop) (a b : World) : Prop where
  os : b.os = a.os
  tape : b.tape = a.tape
  output : b.output = a.output
  size : n0 ≤ b.heap.size
  block : ∀ k, k < n0 → ¬ X k → b.heap[k]? = a.heap[k]?
theorem Kp.refl {n0 : Nat} {X : Nat → Prop} {a : World} (h : n0 ≤ a.heap.size) : Kp n0 X a a := ⟨rfl, rfl, rfl, h, fun _ _ _ => rfl⟩
theorem Kp.below {n0 : Nat} {X : Nat → Prop} {a b c : World} (h : Kp n0 X a b) (k : Below b.heap.size b c) : Kp n0 X a c :=
  ⟨k.os.trans h.os, k.tape.trans h.tape, k.output.trans h.output, Nat.le_trans h.size k.size, fun j hj hX => (k.block j (Nat.lt_of_lt_of_le hj h.size)).trans (h.block j hj hX)⟩
theorem Kp.alloc {n0 : Nat} {X : Nat → Prop} {a b : World} (h : Kp n0 X a b) (o : Obj) : Kp n0 X a (b.alloc o) := h.below ((Below.refl _ b).alloc (Nat.le_refl _) o)
theorem Kp.drew {n0 : Nat} {X : Nat → Prop} {a b : World} (h : Kp n0 X a b) : Kp n0 X a b.drew := ⟨h.os, h.tape, h.output, h.size, h.block⟩
theorem Kp.grown {n0 : Nat} {X : Nat → Prop} {a b c : World} (h : Kp n0 X a b) {r : Option Nat} (k : b.grownBy c r) (hr : ∀ j, r = some j → X j ∨ n0 ≤ j) : Kp n0 X a c :=
  ⟨k.os.trans h.os, k.tape.trans h.tape, k.output.trans h.output, Nat.le_trans h.size k.size, fun j hj hX => (k.block j (Nat.lt_of_lt_of_le hj h.size) (fun e => by rcases hr j e.symm with h1 | h1; exact hX h1; omega)).trans (h.block j hj hX)⟩
theorem Kp.set {n0 : Nat} {X : Nat → Prop} {a b : World} (h : Kp n0 X a b) (j i : Nat) (v : Value) (hX : X j ∨ n0 ≤ j) : Kp n0 X a (b.setCell ⟨j, i, none⟩ v) := h.grown (grown_set b j i v) (fun _ e => by cases e; exact hX)
theorem Kp.cell {n0 : Nat} {X : Nat → Prop} {a b : World} (h : Kp n0 X a b) {k o : Nat} {v : Value} (hk : k < n0) (hX : ¬ X k) (hc : a.cell? ⟨k, o, none⟩ = some v) : b.cell? ⟨k, o, none⟩ = some v :=
  (World.cell?_of_block (a := ⟨k, o, none⟩) (h.block k hk hX)).trans hc
theorem Kp.toBelow {n0 g : Nat} {X : Nat → Prop} {z a b : World} (h : Kp n0 X a b) (hz : Below g z a) (hg : g ≤ n0) (hX : ∀ k, k < g → ¬ X k) (hs : z.heap.size ≤ b.heap.size) : Below g z b :=
  ⟨h.os.trans hz.os, h.tape.trans hz.tape, h.output.trans hz.output, hs, fun k hk => (h.block k (by omega) (hX k hk)).trans (hz.block k hk)⟩
/-- The rows of entries. -/
def rwOf (K : List UInt8) (m : Nat) (x : Ent) : Rw := ⟨(fstI K x.1 m).toNat, (stpI K x.1 m).toNat, x.2⟩
def greatest (ys : List Ent) : Int := ys.foldl (fun a x => max a x.2) 0
/-- Who has each place. -/
def plc (K : List UInt8) (ys : List Ent) (m : Nat) : List Int := if ys = [] then List.replicate m (-1) else (resM m (greatest ys) (ys.map (rwOf K m)) (ms0 m ys.length)).P
/-- A table in memory. -/
def Tab (w : World) (tb : Nat) (names : List (List UInt8)) (P : List Int) : Prop :=
  ∃ nv pb pc, w.heap[tb]? = some (.cells #[nv, .slice (some ⟨pb, 0, none⟩) P.length pc] 65 (0, 0)) ∧ P.length ≤ pc ∧ PB w pb P ∧ Strs w nv names
theorem Tab.lt {w : World} {tb : Nat} {names : List (List UInt8)} {P : List Int} (h : Tab w tb names P) : tb < w.heap.size := by
  obtain ⟨nv, pb, pc, h1, _⟩ := h
  exact (Array.getElem?_eq_some_iff.1 h1).1
theorem greatest_succ (ys : List Ent) (k : Nat) (hk : k < ys.length) : greatest (ys.take (k + 1)) = max (greatest (ys.take k)) ys[k].2 := by
  unfold greatest
  rw [List.take_succ_eq_append_getElem hk, List.foldl_append]; rfl
theorem greatest_rng (ys : List Ent) (h : ∀ x ∈ ys, 1 ≤ x.2 ∧ x.2 ≤ 65535) : 0 ≤ greatest ys ∧ greatest ys ≤ 65535 ∧ (∀ x ∈ ys, x.2 ≤ greatest ys) ∧ (ys ≠ [] → ∃ x ∈ ys, x.2 = greatest ys) := by
  have gen : ∀ (l : List Ent) (a : Int), (∀ x ∈ l, 1 ≤ x.2 ∧ x.2 ≤ 65535) → 0 ≤ a → a ≤ 65535 → a ≤ l.foldl (fun a x => max a x.2) a ∧ l.foldl (fun a x => max a x.2) a ≤ 65535 ∧ (∀ x ∈ l, x.2 ≤ l.foldl (fun a x => max a x.2) a) ∧ (l.foldl (fun a x => max a x.2) a = a ∨ ∃ x ∈ l, x.2 = l.foldl (fun a x => max a x.2) a) := by
    intro l
    induction l with
    | nil => intro a _ h0 h1; exact ⟨Int.le_refl _, h1, by simp, .inl rfl⟩
    | cons y l ih =>
      intro a hl h0 h1
      have hy := hl y (by simp)
      obtain ⟨i1, i2, i3, i4⟩ := ih (max a y.2) (fun x hx => hl x (by simp [hx])) (by omega) (by omega)
      rw [List.foldl_cons]
      refine ⟨by omega, i2, ?_, ?_⟩
      · intro x hx
        rcases List.mem_cons.1 hx with rfl | hx
        · omega
        · exact i3 x hx
      · rcases i4 with i4 | ⟨x, hx, e⟩
        · rcases Int.le_total a y.2 with h | h
          · right; exact ⟨y, by simp, by rw [i4]; omega⟩
          · left; rw [i4]; omega
        · right; exact ⟨x, by simp [hx], e⟩
  obtain ⟨i1, i2, i3, i4⟩ := gen ys 0 h (by omega) (by omega)
  refine ⟨i1, i2, i3, fun hne => ?_⟩
  rcases i4 with i4 | i4
  · cases ys with
    | nil => exact absurd rfl hne
    | cons y l =>
      have h1 := i3 y (by simp)
      have h2 := h y (by simp)
      rw [i4] at h1
      omega
  · exact i4
theorem row_strs {w : World} {base : Nat} {nv : Value} {names : List (List UInt8)} (h : w.ownsRow base 9 1 nv names.length (names.map (fun x => Value.string (mk x)))) : Strs w nv names := by
  have h' := h
  rcases h.2 with ⟨rfl, h0⟩ | ⟨g, cap, cur, rfl, hb, hg, h1, h2, h3, h4⟩
  · exact ⟨none, 0, by rw [h0], by omega, fun hp => by omega⟩
  · refine ⟨_, cap, rfl, h1, fun _ => ⟨g, 0, rfl, (Array.getElem?_eq_some_iff.1 hg).1, fun j x hj => ?_⟩⟩
    have hj2 : j < names.length := (List.getElem?_eq_some_iff.1 hj).1
    rw [Nat.zero_add, h'.cellAt j (by omega), List.getElem?_map, hj]; rfl
theorem cell_set_self {w : World} {b i : Nat} {u v : Value} (h : w.cell? ⟨b, i, none⟩ = some u) : (w.setCell ⟨b, i, none⟩ v).cell? ⟨b, i, none⟩ = some v := World.cell?_setCell_same _ _ _ h
theorem cell_set_ne (w : World) (b j i : Nat) (v : Value) (h : j ≠ i) : (w.setCell ⟨b, i, none⟩ v).cell? ⟨b, j, none⟩ = w.cell? ⟨b, j, none⟩ := World.cell?_setCell_other _ _ _ _ (fun e => h (by injection e with e1 e2; exact e2.symm))
theorem frozen_set (w : World) (b j i : Nat) (v : Value) : (w.setCell ⟨b, i, none⟩ v).frozen? ⟨b, j, none⟩ = w.frozen? ⟨b, j, none⟩ := World.frozen?_setCell _ _ _ _
/-- The rounds' state in memory. -/
def MSR (w : World) (pb : Nat) (bs : List Nat) (rs : List Rw) (m : Nat) (st : MS) : Prop :=
  PB w pb st.P ∧ (∀ j, w.frozen? ⟨pb, j, none⟩ = false) ∧ ∀ (i b : Nat) (r : Rw), bs[i]? = some b → rs[i]? = some r → WkB w b (pos m r (st.K.getD i 0) : Nat) (r.s : Nat) (st.O.getD i 0) r.w
theorem nodup_ne {bs : List Nat} (h : bs.Nodup) {i j b c : Nat} (hi : bs[i]? = some b) (hj : bs[j]? = some c) (hne : j ≠ i) : c ≠ b := by
  intro e
  subst e
  obtain ⟨h1, h2⟩ := List.getElem?_eq_some_iff.1 hi
  obtain ⟨h3, h4⟩ := List.getElem?_eq_some_iff.1 hj
  have hp := List.pairwise_iff_getElem.1 h
  rcases Nat.lt_or_gt_of_ne hne with h5 | h5
  · exact hp j i h3 h1 h5 (h4.trans h2.symm)
  · exact hp i j h1 h3 h5 (h2.trans h4.symm)
theorem MSR.drew {w : World} {pb m : Nat} {bs : List Nat} {rs : List Rw} {st : MS} (h : MSR w pb bs rs m st) : MSR w.drew pb bs rs m st := h
theorem MSR.owe {w : World} {pb m : Nat} {bs : List Nat} {rs : List Rw} {st : MS} (h : MSR w pb bs rs m st) (hn : bs.Nodup) (hpb : pb ∉ bs) {i b : Nat} (hb : bs[i]? = some b) (hi : i < st.O.length) (x : Int) : MSR (w.setCell ⟨b, 2, none⟩ (.int .i64 x)) pb bs rs m { st with O := st.O.set i x } := by
  have hg := grown_set w b 2 (.int .i64 x)
  have hne : pb ≠ b := fun e => hpb (e ▸ List.mem_of_getElem? hb)
  refine ⟨h.1.other hg (fun e => hne (Option.some.inj e)), fun j => ?_, fun j c r hj hr => ?_⟩
  · rw [World.frozen?_of_block (w := w) (a := ⟨pb, j, none⟩) (hg.block pb h.1.1 (fun e => hne (Option.some.inj e)))]
    exact h.2.1 j
  · have hw := h.2.2 j c r hj hr
    show WkB _ c _ _ ((st.O.set i x).getD j 0) _
    rw [getD_set _ _ _ _ _ hi]
    by_cases e : j = i
    · subst e
      rw [hb] at hj; cases hj
      rw [if_pos rfl]
      exact hw.set2 x
    · rw [if_neg e]
      exact hw.grown hg (fun e2 => nodup_ne hn hb hj e (Option.some.inj e2))
theorem MSR.take {w w' : World} {pb m : Nat} {bs : List Nat} {rs : List Rw} {st : MS} (h : MSR w pb bs rs m st) (hn : bs.Nodup) (hpb : pb ∉ bs) {i b k : Nat} {r : Rw} (hb : bs[i]? = some b) (hr : rs[i]? = some r) (hi : i < st.K.length) (hg : w.grownBy w' (some b))
    (hW : WkB w' b (pos m r k : Nat) (r.s : Nat) (st.O.getD i 0) r.w) (G : Nat) : MSR (w'.setCell ⟨pb, pos m r k, none⟩ (.int .i64 (i : Int))) pb bs rs m { P := st.P.set (pos m r k) (i : Int), K := st.K.set i k, O := st.O, G := G } := by
  have hne : pb ≠ b := fun e => hpb (e ▸ List.mem_of_getElem? hb)
  have h1 := h.1.other hg (fun e => hne (Option.some.inj e))
  have hfz : ∀ j, w'.frozen? ⟨pb, j, none⟩ = false := fun j => by
    rw [World.frozen?_of_block (w := w) (a := ⟨pb, j, none⟩) (hg.block pb h.1.1 (fun e => hne (Option.some.inj e)))]
    exact h.2.1 j
  have hg2 := grown_set w' pb (pos m r k) (.int .i64 (i : Int))
  refine ⟨⟨by simp [World.setCell]; exact h1.1, fun j x hj => ?_⟩, fun j => ?_, fun j c r' hj hr' => ?_⟩
  · rw [List.getElem?_set] at hj
    split at hj
    · rename_i hjk
      subst hjk
      split at hj
      · rename_i hlt
        cases hj
        have := h1.2 (pos m r k) st.P[pos m r k] (List.getElem?_eq_getElem hlt)
        exact cell_set_self this
      · cases hj
    · rename_i hjk
      exact (cell_set_ne w' pb j (pos m r k) _ (fun e => hjk e.symm)).trans (h1.2 j x hj)
  · exact (frozen_set w' pb j (pos m r k) _).trans (hfz j)
  · have hcp : c ≠ pb := fun e => hpb (e ▸ List.mem_of_getElem? hj)
    show WkB _ c ((pos m r' ((st.K.set i k).getD j 0) : Nat) : Int) _ _ _
    rw [getD_set _ _ _ _ _ hi]
    by_cases e : j = i
    · subst e
      rw [hb] at hj; cases hj
      rw [hr] at hr'; cases hr'
      rw [if_pos rfl]
      exact hW.grown hg2 (fun e2 => hcp (Option.some.inj e2))
    · rw [if_neg e]
      exact ((h.2.2 j c r' hj hr').grown hg (fun e2 => nodup_ne hn hb hj e (Option.some.inj e2))).grown hg2 (fun e2 => hcp (Option.some.inj e2))
theorem PB.kp {n0 : Nat} {X : Nat → Prop} {a b : World} {pb : Nat} {P : List Int} (h : PB a pb P) (k : Kp n0 X a b) (hb : pb < n0) (hX : ¬ X pb) : PB b pb P := ⟨Nat.lt_of_lt_of_le hb k.size, fun j x hj => k.cell hb hX (h.2 j x hj)⟩
theorem PB.below {a b : World} {pb : Nat} {P : List Int} (h : PB a pb P) (k : Below a.heap.size a b) : PB b pb P := ⟨Nat.lt_of_lt_of_le h.1 k.size, fun j x hj => old2 (h.2 j x hj) h.1 k⟩
theorem strs_kp {n0 : Nat} {X : Nat → Prop} {a b : World} {v : Value} {xs : List (List UInt8)} (h : Strs a v xs) (k : Kp n0 X a b) (hn : n0 = a.heap.size) (hX : ∀ c, v.ownBlock = some c → ¬ X c) : Strs b v xs := by
  obtain ⟨A, c, rfl, hc, hr⟩ := h
  refine ⟨A, c, rfl, hc, fun hp => ?_⟩
  obtain ⟨q, o, rfl, hq, hx⟩ := hr hp
  exact ⟨q, o, rfl, Nat.lt_of_lt_of_le (hn ▸ hq) k.size, fun j x hj => k.cell (hn ▸ hq) (hX q rfl) (hx j x hj)⟩
theorem infoStr : (Try.prog.info? 9).map (fun i => (i.zero, i.size, i.bytes)) = some (some (.string ⟨#[]⟩), 1, 16) := by kernel_rfl
set_option maxRecDepth 100000 in
set_option maxHeartbeats 4000000 in
theorem build_any (k0 k1 k2 k3 k4 k5 k6 k7 k8 k9 k10 k11 k12 k13 k14 k15 : UInt8) (xs : List Ent) (m : Int) (v : Value) (w : World) (hv : Ents w v xs) (hN : xs.length ≤ 1000000) (hT : ∀ x ∈ xs, x.1.length ≤ 1000) :
    Calls Try.prog 10 #[.agg #[.int .u8 (k0.toNat : Int), .int .u8 (k1.toNat : Int), .int .u8 (k2.toNat : Int), .int .u8 (k3.toNat : Int), .int .u8 (k4.toNat : Int), .int .u8 (k5.toNat : Int), .int .u8 (k6.toNat : Int), .int .u8 (k7.toNat : Int), .int .u8 (k8.toNat : Int), .int .u8 (k9.toNat : Int), .int .u8 (k10.toNat : Int), .int .u8 (k11.toNat : Int), .int .u8 (k12.toNat : Int), .int .u8 (k13.toNat : Int), .int .u8 (k14.toNat : Int), .int .u8 (k15.toNat : Int)], v, .int .i64 m] w fun e w' => Below w.heap.size w w' ∧ ((errM xs m = 1 ∧ e = .returned (.tuple #[.pointer none, .int .i64 1])) ∨ (errM xs m = 0 ∧ ∃ (ys : List Ent) (tb : Nat), ys.Perm xs ∧ Srt ys ∧ e = .returned (.tuple #[.pointer (some ⟨tb, 0, none⟩), .int .i64 0]) ∧ w.heap.size ≤ tb ∧ Tab w' tb (ys.map Prod.fst) (plc [k0, k1, k2, k3, k4, k5, k6, k7, k8, k9, k10, k11, k12, k13, k14, k15] ys m.toNat))) := by
  obtain ⟨i0, hi, hz0, hz1, hz2⟩ := info_parts infoStr
  have hb0 : Below w.heap.size w w := Below.refl _ _
  have hb1 := hb0.alloc (Nat.le_refl _) (.cells #[.int .u8 (k0.toNat : Int), .int .u8 (k1.toNat : Int), .int .u8 (k2.toNat : Int), .int .u8 (k3.toNat : Int), .int .u8 (k4.toNat : Int), .int .u8 (k5.toNat : Int), .int .u8 (k6.toNat : Int), .int .u8 (k7.toNat : Int), .int .u8 (k8.toNat : Int), .int .u8 (k9.toNat : Int), .int .u8 (k10.toNat : Int), .int .u8 (k11.toNat : Int), .int .u8 (k12.toNat : Int), .int .u8 (k13.toNat : Int), .int .u8 (k14.toNat : Int), .int .u8 (k15.toNat : Int)] 26)
  have hkb : BytesAt (w.alloc (.cells #[.int .u8 (k0.toNat : Int), .int .u8 (k1.toNat : Int), .int .u8 (k2.toNat : Int), .int .u8 (k3.toNat : Int), .int .u8 (k4.toNat : Int), .int .u8 (k5.toNat : Int), .int .u8 (k6.toNat : Int), .int .u8 (k7.toNat : Int), .int .u8 (k8.toNat : Int), .int .u8 (k9.toNat : Int), .int .u8 (k10.toNat : Int), .int .u8 (k11.toNat : Int), .int .u8 (k12.toNat : Int), .int .u8 (k13.toNat : Int), .int .u8 (k14.toNat : Int), .int .u8 (k15.toNat : Int)] 26)) w.heap.size [k0, k1, k2, k3, k4, k5, k6, k7, k8, k9, k10, k11, k12, k13, k14, k15] 26 := blkNew _ _
  have hs1 : w.heap.size < (w.alloc (.cells #[.int .u8 (k0.toNat : Int), .int .u8 (k1.toNat : Int), .int .u8 (k2.toNat : Int), .int .u8 (k3.toNat : Int), .int .u8 (k4.toNat : Int), .int .u8 (k5.toNat : Int), .int .u8 (k6.toNat : Int), .int .u8 (k7.toNat : Int), .int .u8 (k8.toNat : Int), .int .u8 (k9.toNat : Int), .int .u8 (k10.toNat : Int), .int .u8 (k11.toNat : Int), .int .u8 (k12.toNat : Int), .int .u8 (k13.toNat : Int), .int .u8 (k14.toNat : Int), .int .u8 (k15.toNat : Int)] 26)).heap.size := by simp
  have dC := check_any xs m v _ (hv.below hb1) (by omega) (fun x hx => by have := hT x hx; omega)
  rcases Classical.em (OkM xs m) with hok | hok
  case inr =>
    have he := errM_1 hok
    rw [he] at dC ⊢
    go_enter Try.func10, Try.ntmps10
    go_wp2_with (go_at_call 25; refine dC.mono ?_; rintro e w1 ⟨rfl, hb2⟩)
    go_ret2
    exact ⟨hb1.trans (hb2.mono (Nat.le_of_lt hs1)), .inl ⟨by simp, rfl⟩⟩
  have he := errM_0 hok
  rw [he] at dC ⊢
  obtain ⟨A, c, rfl, hc, hr⟩ := hv
  have hm := hok.1.1
  have hmx0 := hok.1.2.1
  have hm2 := hok.1.2.1
  obtain ⟨M, rfl⟩ := Int.eq_ofNat_of_zero_le (show 0 ≤ m by omega)
  rw [Int.toNat_natCast]
  have hmx : M ≤ 1048576 := by omega
  have hlen := hok.2.2.1
  go_enter Try.func10, Try.ntmps10
  go_wp2_with (first
    | (go_at_call 25; refine dC.mono ?_; rintro e w1 ⟨rfl, hb2⟩)
    | (go_at_call 27; refine (valuesF_any _ _ _ _).mono ?_; rintro e w2 ⟨rfl, rfl⟩))
  have hbt1 := hb1.trans (hb2.mono (Nat.le_of_lt hs1))
  have hk1 : BytesAt w1 w.heap.size [k0, k1, k2, k3, k4, k5, k6, k7, k8, k9, k10, k11, k12, k13, k14, k15] 26 := (hb2.block _ hs1).trans hkb
  have hv1 : Ents w1 (.slice A xs.length c) xs := ⟨A, c, rfl, hc, fun hp => by
    obtain ⟨b, o, h1, h2, h3⟩ := hr hp
    exact ⟨b, o, h1, Nat.lt_of_lt_of_le h2 hbt1.size, fun j x hj => ⟨(hbt1.cell (p := ⟨b, o + j * 2, none⟩) h2).trans (h3 j x hj).1, (hbt1.cell (p := ⟨b, o + j * 2 + 1, none⟩) h2).trans (h3 j x hj).2⟩⟩⟩
  have hs2 : w.heap.size < w1.heap.size := Nat.lt_of_lt_of_le hs1 hb2.size
  generalize hKd0 : ([k0, k1, k2, k3, k4, k5, k6, k7, k8, k9, k10, k11, k12, k13, k14, k15] : List UInt8) = K at *
  have hKd := Lib.hid hKd0
  have hKl : K.length = 16 := by rw [← hKd0]; rfl
  clear hKd0 dC hb1 hb2 hkb hs1 hr
  have dS := sortedFunc_any w1.heap.size (.slice A xs.length c) xs (by omega) w1 (w1.alloc (.cells #[.slice A xs.length c] 32)) hv1 (by simp) ((Below.refl _ _).alloc (Nat.le_refl _) _) ((cell_of_row _ w1.heap.size 0 _ _ _ (heap_alloc_new w1 _)).trans rfl)
  go_wp2_with (go_at_call 26; refine dS.mono ?_; rintro e w2 ⟨v2, ys, rfl, hperm, hsrt, hv2, hb2⟩)
  have hbt2 : Below w.heap.size w w2 := hbt1.trans ((((Below.refl _ w1).alloc (Nat.le_refl _) _).trans (hb2.mono (by simp))).mono (Nat.le_of_lt hs2))
  have hk2 : BytesAt w2 w.heap.size K 26 := (hb2.block _ (by simp; omega)).trans ((Below.heap_alloc _ _ _ hs2).trans hk1)
  have hs3 : w.heap.size < w2.heap.size := by have := hb2.size; simp at this; omega
  have hgood : Good ys := ⟨fun x hx => hok.2.2.2.1 x (hperm.mem_iff.1 hx), (hperm.map Prod.fst).nodup_iff.2 hok.2.2.2.2⟩
  have hyl : ys.length = xs.length := hperm.length_eq
  have hlen2 : ys.length ≤ 1024 := by omega
  have hm3 : 100 * (ys.length : Int) ≤ (M : Int) := by have := hok.2.1; omega
  have hTy : ∀ x ∈ ys, x.1.length ≤ 1000 := fun x hx => hT x (hperm.mem_iff.1 hx)
  clear hb2 hk1 hs2 hbt1 hv1 dS hyl hlen hm2 hT hN hc
  obtain ⟨A2, c2, rfl, hc2, hr2⟩ := hv2
  have dR := repeat_any (-1) w2.heap.size 0 1 M (by omega) hmx (w2.alloc (.cells #[.int .i64 (-1)] 3)) ((cell_of_row _ w2.heap.size 0 _ _ _ (heap_alloc_new w2 _)).trans rfl) (by simp)
  go_wp2_with (go_at_call 30; refine dR.mono ?_; rintro e w3 ⟨v3, rfl, hrow, hb3⟩; obtain ⟨pb, pc, rfl, hpb, hpb3⟩ := hrow.form (by omega))
  have hTn := heap_alloc_new w3 (.cells #[.slice none 0 0, .slice (some ⟨pb, 0, none⟩) M pc] 65)
  have hs4 : w2.heap.size + 1 ≤ w3.heap.size := by have := hb3.size; simpa using this
  have hb23 : Below w2.heap.size w2 w3 := ((Below.refl _ w2).alloc (Nat.le_refl _) _).trans (hb3.mono (by simp))
  have hbt3 : Below w.heap.size w w3 := hbt2.trans (hb23.mono (Nat.le_of_lt hs3))
  have hk3 : BytesAt w3 w.heap.size K 26 := (hb23.block _ hs3).trans hk2
  have hr3 : 0 < ys.length → ∃ b o, A2 = some ⟨b, o, none⟩ ∧ b < w3.heap.size ∧ b < w2.heap.size ∧ ∀ j x, ys[j]? = some x → w3.cell? ⟨b, o + j * 2, none⟩ = some (.string (mk x.1)) ∧ w3.cell? ⟨b, o + j * 2 + 1, none⟩ = some (.int .i64 x.2) := fun hp => by
    obtain ⟨b, o, h1, h2, h3⟩ := hr2 hp
    exact ⟨b, o, h1, Nat.lt_of_lt_of_le h2 hb23.size, h2, fun j x hj => ⟨(hb23.cell (p := ⟨b, o + j * 2, none⟩) h2).trans (h3 j x hj).1, (hb23.cell (p := ⟨b, o + j * 2 + 1, none⟩) h2).trans (h3 j x hj).2⟩⟩
  have hP0 : PB w3 pb (List.replicate M (-1)) := by
    refine ⟨hpb3, fun j x hj => ?_⟩
    rw [List.getElem?_replicate] at hj
    split at hj
    · rename_i hjM
      cases hj
      rw [hrow.cellAt j (by omega), List.getElem?_replicate, if_pos hjM]
    · cases hj
  have hpc : M ≤ pc := by
    rcases hrow.2 with ⟨h0, _⟩ | ⟨g', cap', cur, hv, _, _, h1, _⟩
    · cases h0
    · cases hv; exact h1
  have hpf : Hid (∀ j, w3.frozen? ⟨pb, j, none⟩ = false) := Lib.hid (fun j => hrow.frozenAt j)
  have hpb2 : w2.heap.size < pb := by rw [World.size_alloc] at hpb; exact hpb
  clear hr2 hb3 hb23 hk2 hbt2 dR hrow hpb
  replace hr3 := Lib.hid hr3
  replace hTn := Lib.hid hTn
  have hb4 := hbt3.alloc (by omega) (.cells #[.slice none 0 0, .slice (some ⟨pb, 0, none⟩) M pc] 65)
  have hK4 : Kp w3.heap.size (fun _ => False) w3 (w3.alloc (.cells #[.slice none 0 0, .slice (some ⟨pb, 0, none⟩) M pc] 65)) := (Kp.refl (Nat.le_refl _)).alloc _
  have hz4 : w3.heap.size < (w3.alloc (.cells #[.slice none 0 0, .slice (some ⟨pb, 0, none⟩) M pc] 65)).heap.size := by simp
  generalize w3.alloc (.cells #[.slice none 0 0, .slice (some ⟨pb, 0, none⟩) M pc] 65) = w4 at *
  have ho0 : w4.ownsRow (w3.heap.size + 1) 9 1 (.slice none 0 0) 0 [] := World.ownsRow_nil _ _ _ _
  generalize htb : w3.heap.size = tb at *
  generalize hg : w.heap.size = g at *
  go_loopw [10, 33] (fun gr i wr => ∃ (k : Nat) (nv : Value), k ≤ ys.length ∧ i = .int .i64 k ∧ gr = .int .i64 (greatest (ys.take k)) ∧ Hid (wr.heap[tb]? = some (.cells #[nv, .slice (some ⟨pb, 0, none⟩) M pc] 65 (0, 0))) ∧ wr.ownsRow (tb + 1) 9 1 nv k ((ys.take k).map (fun x => Value.string (mk x.1))) ∧ Kp tb (fun _ => False) w3 wr ∧ tb < wr.heap.size ∧ Hid (w.heap.size ≤ wr.heap.size)) (fun _ i _ => ys.length - (intOf i).toNat)
  case atStart => exact ⟨0, _, Nat.zero_le _, rfl, rfl, hTn, ho0, hK4, hz4, Lib.hid (by have := hb4.size; omega)⟩
  case round =>
    obtain ⟨k, nv, hk, rfl, rfl, hT, hown, hKp, htl, hsz⟩ := hrel
    by_cases c1 : k < ys.length
    · obtain ⟨b, o, rfl, hbl, hbl2, hx⟩ := hr3.out (by omega)
      have hx0 := hx k ys[k] (by simp [c1])
      have hc0 := hKp.cell (by omega) (fun h => h) hx0.1
      have hc1 := hKp.cell (by omega) (fun h => h) hx0.2
      have hxl := hTy ys[k] (by simp)
      have hwx := hgood.1 ys[k] (by simp)
      have hgs := Lib.hid (greatest_succ ys k c1)
      have hnx := Lib.hid (show (ys.take (k + 1)).map (fun x => Value.string (mk x.1)) = (ys.take k).map (fun x => Value.string (mk x.1)) ++ [.string (mk ys[k].1)] by rw [List.take_succ_eq_append_getElem c1, List.map_append]; rfl)
      have hgr := greatest_rng (ys.take k) (fun x hx => hgood.1 x (List.mem_of_mem_take hx))
      obtain ⟨hgr1, hgr2, _, _⟩ := hgr
      generalize ys[k] = x at *
      generalize greatest (ys.take k) = gr at *
      clear hx0 hx
      go_wp2
      have hne : nv.ownBlock ≠ some tb := fun e => by have := (hown.lt tb e).1; omega
      have hownE := hown.alloc (.cells #[.string (mk x.1), .int .i64 x.2] 54)
      have hTE := (Below.heap_alloc wr (.cells #[.string (mk x.1), .int .i64 x.2] 54) _ htl).trans hT.out
      have hE0 := (new_two wr (.string (mk x.1)) (.int .i64 x.2) 54).1
      have hE1 := (new_two wr (.string (mk x.1)) (.int .i64 x.2) 54).2
      have hKE := hKp.alloc (.cells #[.string (mk x.1), .int .i64 x.2] 54)
      have hzE : wr.heap.size < (wr.alloc (.cells #[.string (mk x.1), .int .i64 x.2] 54)).heap.size := by simp
      have hqE : nv.ownBlock ≠ some wr.heap.size := fun e => by have := (hown.lt _ e).2; omega
      generalize wr.alloc (.cells #[.string (mk x.1), .int .i64 x.2] 54) = wE at *
      generalize wr.heap.size = q at *
      have hT0 : wE.cell? ⟨tb, 0, none⟩ = some nv := (cell_of_row _ tb 0 _ _ _ hTE).trans rfl
      have hbk := heap_alloc_new wE.drew (Obj.cells #[.string (mk x.1)] 9)
      have hbk' : ((wE.drew).alloc (Obj.cells #[.string (mk x.1)] 9)).heap[wE.heap.size]? = _ := hbk
      have hTh := Lib.hid hTE
      clear hTE hown hT hKp hbk hc0 hc1
      have hbk2 := heap_alloc_new wE (Obj.cells #[.string (mk x.1)] 9)
      clear hbk'
      have htE : tb < wE.heap.size := by omega
      have htE2 : ¬ tb = wE.heap.size := by omega
      have hT0a := oldA hT0 htE (.cells #[.string (mk x.1)] 9)
      go_region_law (refine step_append_lies _ (by rfl) _ _ _ (by rfl) (tb + 1) 9 i0 _ 1 16 Try.underlying36 hi hz0 hz1 hz2 rfl (by omega) nv k _ (by rfl) ((hownE.alloc _).drew) ⟨wE.heap.size, 0, none⟩ 1 1 [.string (mk x.1)] (by rfl) (by rfl) (World.news_of_block (cs := #[.string (mk x.1)]) (t := 9) (fr := (0, 0)) hbk2) (by simp [Value.oneCell']) (by omega) (by unfold maxLen; omega) (by omega) (by simp; omega) (wE.heap.size + 1) (by simp) ?_; intro g5 c5 w5 hown' hgrow hat hlt5; have hT5 := Lib.hid ((hgrow.block tb (by simp; omega) (fun e => hne e.symm)).trans ((Below.heap_alloc _ _ _ (show tb < wE.heap.size by omega)).trans hTh.out)); have hf5 : w5.frozen? ⟨tb, 0, none⟩ = false := (by simp [World.frozen?, hT5.out]); have hc5 : w5.cell? ⟨tb, 0, none⟩ = some nv := (cell_of_row _ tb 0 _ _ _ hT5.out).trans rfl; have hE5 : w5.cell? ⟨q, 1, none⟩ = some (.int .i64 x.2) := ((World.cell?_of_block (a := ⟨q, 1, none⟩) (hgrow.block q (by simp; omega) (fun e => hqE e.symm))).trans (oldA hE1 hzE _)))
      all_goals
        have hqt : ¬ q = tb := by omega
        have hqt2 : ¬ tb = q := by omega
        have hr5 : w5.ownsRow (tb + 1) 9 1 (.slice (some ⟨g5, 0, none⟩) (k + 1) c5) (k + 1) _ := hown'
        have hg5 : g5 ≠ tb := fun e => by rw [e] at hat; rcases hat with h | h; exact hne h; omega
        have hK5 : Kp tb (fun _ => False) w3 w5 := Kp.grown (((hKE.drew).alloc _)) hgrow (fun j hj => .inr (by have := (hownE.lt j hj).1; omega))
        have hz5 : wE.heap.size + 1 ≤ w5.heap.size := by have := hgrow.size; simpa using this
        have hT6 := heap_set (i := 0) hT5.out (.slice (some ⟨g5, 0, none⟩) (k + 1) c5)
        have hr6 := ownsRow_setCell_other hr5 (a := ⟨tb, 0, none⟩) (fun e => hg5 (by simpa [Value.ownBlock] using e)) (.slice (some ⟨g5, 0, none⟩) (k + 1) c5)
        have hK6 := hK5.set tb 0 (.slice (some ⟨g5, 0, none⟩) (k + 1) c5) (.inr (Nat.le_refl _))
        have hE6 : (w5.setCell ⟨tb, 0, none⟩ (.slice (some ⟨g5, 0, none⟩) (k + 1) c5)).cell? ⟨q, 1, none⟩ = some (.int .i64 x.2) := (World.cell?_of_block (a := ⟨q, 1, none⟩) (Below.heap_setCell _ _ _ q hqt)).trans hE5
        have hz6 : (w5.setCell ⟨tb, 0, none⟩ (.slice (some ⟨g5, 0, none⟩) (k + 1) c5)).heap.size = w5.heap.size := by simp [World.setCell]
        generalize w5.setCell ⟨tb, 0, none⟩ (.slice (some ⟨g5, 0, none⟩) (k + 1) c5) = w6 at *
        replace hT6 := Lib.hid hT6
        replace hz6 := Lib.hid (Nat.le_of_eq hz6.symm)
        clear hT5 hf5 hc5 hE5 hgrow hown' hr5 hTh hT0 hT0a hE0 hE1 hownE hKE hK5 hbk2
        go_wp2
        go_roundw
        case rel => exact ⟨k + 1, _, by omega, by go_num, by rw [hgs.out], hT6, by rw [hnx.out]; exact hr6, hK6, by have := hz6.out; omega, Lib.hid (by have := hz6.out; have := hsz.out; omega)⟩
        case measure => simp [intOf]; omega
    · have hk : k = ys.length := by omega
      subst hk
      rw [List.take_length] at hown ⊢
      clear hk c1
      have hgrr := greatest_rng ys hgood.1
      have hgT := hKp.toBelow hbt3 (by omega) (fun _ _ h => h) hsz.out
      have hkg : BytesAt wr g [k0, k1, k2, k3, k4, k5, k6, k7, k8, k9, k10, k11, k12, k13, k14, k15] 26 := by rw [hKd.out]; exact (hKp.block g (by omega) (fun h => h)).trans hk3
      have hq0 : wr.cell? ⟨g, 0, none⟩ = some (.int .u8 (k0.toNat : Int)) := hkg.cell 0 (by simp)
      have hq1 : wr.cell? ⟨g, 1, none⟩ = some (.int .u8 (k1.toNat : Int)) := hkg.cell 1 (by simp)
      have hq2 : wr.cell? ⟨g, 2, none⟩ = some (.int .u8 (k2.toNat : Int)) := hkg.cell 2 (by simp)
      have hq3 : wr.cell? ⟨g, 3, none⟩ = some (.int .u8 (k3.toNat : Int)) := hkg.cell 3 (by simp)
      have hq4 : wr.cell? ⟨g, 4, none⟩ = some (.int .u8 (k4.toNat : Int)) := hkg.cell 4 (by simp)
      have hq5 : wr.cell? ⟨g, 5, none⟩ = some (.int .u8 (k5.toNat : Int)) := hkg.cell 5 (by simp)
      have hq6 : wr.cell? ⟨g, 6, none⟩ = some (.int .u8 (k6.toNat : Int)) := hkg.cell 6 (by simp)
      have hq7 : wr.cell? ⟨g, 7, none⟩ = some (.int .u8 (k7.toNat : Int)) := hkg.cell 7 (by simp)
      have hq8 : wr.cell? ⟨g, 8, none⟩ = some (.int .u8 (k8.toNat : Int)) := hkg.cell 8 (by simp)
      have hq9 : wr.cell? ⟨g, 9, none⟩ = some (.int .u8 (k9.toNat : Int)) := hkg.cell 9 (by simp)
      have hq10 : wr.cell? ⟨g, 10, none⟩ = some (.int .u8 (k10.toNat : Int)) := hkg.cell 10 (by simp)
      have hq11 : wr.cell? ⟨g, 11, none⟩ = some (.int .u8 (k11.toNat : Int)) := hkg.cell 11 (by simp)
      have hq12 : wr.cell? ⟨g, 12, none⟩ = some (.int .u8 (k12.toNat : Int)) := hkg.cell 12 (by simp)
      have hq13 : wr.cell? ⟨g, 13, none⟩ = some (.int .u8 (k13.toNat : Int)) := hkg.cell 13 (by simp)
      have hq14 : wr.cell? ⟨g, 14, none⟩ = some (.int .u8 (k14.toNat : Int)) := hkg.cell 14 (by simp)
      have hq15 : wr.cell? ⟨g, 15, none⟩ = some (.int .u8 (k15.toNat : Int)) := hkg.cell 15 (by simp)
      have hEn : Ents wr (.slice A2 ys.length c2) ys := ⟨A2, c2, rfl, hc2, fun hp => by
        obtain ⟨b, o, h1, h2, _, h3⟩ := hr3.out hp
        exact ⟨b, o, h1, by omega, fun j x hj => ⟨hKp.cell (by omega) (fun h => h) (h3 j x hj).1, hKp.cell (by omega) (fun h => h) (h3 j x hj).2⟩⟩⟩
      have dW := walkers_any k0 k1 k2 k3 k4 k5 k6 k7 k8 k9 k10 k11 k12 k13 k14 k15 ys M (by omega) hmx _ wr hEn hlen2 hTy
      rw [hKd.out] at dW
      generalize hgre : greatest ys = gr at *
      clear hkg hEn
      go_wp2_with (go_at_call 31; refine dW.mono ?_; rintro e w7 ⟨u, bs, rfl, hbl, hou, hbn, hbW, hb7⟩)
      clear dW hq0 hq1 hq2 hq3 hq4 hq5 hq6 hq7 hq8 hq9 hq10 hq11 hq12 hq13 hq14 hq15
      have hT7 := (hb7.block tb htl).trans hT.out
      have hS7 : Strs w7 nv (ys.map Prod.fst) := row_strs (base := tb + 1) (by rw [List.length_map, List.map_map]; exact own_below hown hb7)
      have hP7 : PB w7 pb (List.replicate M (-1)) := (hP0.kp hKp hpb3 (fun h => h)).below hb7
      have hf7 : Hid (∀ j, w7.frozen? ⟨pb, j, none⟩ = false) := Lib.hid (fun j => by
        rw [World.frozen?_of_block (w := wr) (a := ⟨pb, j, none⟩) (hb7.block pb (by omega)), World.frozen?_of_block (w := w3) (a := ⟨pb, j, none⟩) (hKp.block pb hpb3 (fun h => h))]
        exact hpf.out j)
      have hgT7 := hgT.trans (hb7.mono (by omega))
      have hsw := hb7.size
      have hnb : ∀ c, nv.ownBlock = some c → tb + 1 ≤ c ∧ c < wr.heap.size := fun c hc => hown.lt c hc
      have hbb : ∀ b, b ∈ bs → wr.heap.size ≤ b ∧ b < w7.heap.size := fun b hb => by
        obtain ⟨i, hi, e⟩ := List.getElem_of_mem hb
        have h1 := hbW i b ys[i] (by rw [List.getElem?_eq_getElem hi, e]) (List.getElem?_eq_getElem (by omega))
        exact ⟨h1.1, h1.2.lt⟩
      clear hown hP0 hpf hKp hT hgT hb7 hr3 hbt3 hk3
      by_cases hy : ys = []
      · have hl0 : bs.length = 0 := by rw [hbl, hy]; rfl
        have hu : ∃ ua uc, u = .slice ua 0 uc := by
          rcases hou.2 with ⟨rfl, h0⟩ | ⟨ub, uc, cur, rfl, _⟩
          · exact ⟨none, 0, rfl⟩
          · exact ⟨_, uc, by rw [hl0]⟩
        obtain ⟨ua, uc, rfl⟩ := hu
        have hpl : plc K ys M = List.replicate M (-1) := by unfold plc; rw [if_pos hy]
        replace hpl := Lib.hid hpl
        replace hT7 := Lib.hid hT7
        clear hl0 hou
        go_loopw [14] (fun gv wr => gv = .int .i64 0 ∧ wr = w7) (fun _ _ => 0)
        case atStart => exact ⟨rfl, rfl⟩
        case round =>
          obtain ⟨rfl, rfl⟩ := hrel
          go_wp2
          go_ret2
          rw [hKd.out, hg]
          exact ⟨hgT7, .inr ⟨by simp, ys, tb, hperm, hsrt, rfl, by omega, by rw [hpl.out]; exact ⟨nv, pb, pc, by rw [List.length_replicate]; exact hT7.out, by rw [List.length_replicate]; exact hpc, hP7, hS7⟩⟩⟩
      · have hpl := Lib.hid (show plc K ys M = (resM M gr (ys.map (rwOf K M)) (ms0 M ys.length)).P by unfold plc; rw [if_neg hy, hgre])
        have hny : 0 < ys.length := by cases ys with | nil => exact absurd rfl hy | cons y l => simp
        have hR : Rows M gr (ys.map (rwOf K M)) := by
          refine ⟨hok.1, ?_, ?_, ?_⟩
          · intro r hr
            obtain ⟨x, hx, rfl⟩ := List.mem_map.1 hr
            obtain ⟨_, _, p1, p2, _, _, _, _, _, _, _, hq2, _, hG⟩ := nums K x.1 M (by omega) hmx
            show 1 ≤ (stpI K x.1 M).toNat ∧ (stpI K x.1 M).toNat < M
            rw [hG.out]; omega
          · intro r hr
            obtain ⟨x, hx, rfl⟩ := List.mem_map.1 hr
            exact ⟨(hgood.1 x hx).1, hgrr.2.2.1 x hx⟩
          · obtain ⟨x, hx, e⟩ := hgrr.2.2.2 hy
            exact ⟨_, List.mem_map_of_mem hx, e⟩
        have hrl : (ys.map (rwOf K M)).length = ys.length := List.length_map _
        have hI0 := ms0_inv hR
        rw [hrl] at hI0
        have hM0 : MSR w7 pb bs (ys.map (rwOf K M)) M (ms0 M ys.length) := by
          refine ⟨hP7, hf7.out, fun i b r hb hr => ?_⟩
          rw [List.getElem?_map] at hr
          cases hx : ys[i]? with
          | none => rw [hx] at hr; cases hr
          | some x =>
            rw [hx] at hr
            cases hr
            obtain ⟨h1, h2⟩ := hbW i b x hb hx
            obtain ⟨_, _, p1, p2, _, _, _, _, _, _, hq1, hq2, hF, hG⟩ := nums K x.1 M (by omega) hmx
            have e1 : ((pos M (rwOf K M x) ((ms0 M ys.length).K.getD i 0) : Nat) : Int) = fstI K x.1 M := by
              show ((pos M (rwOf K M x) ((List.replicate ys.length 0).getD i 0) : Nat) : Int) = _
              rw [getD_rep]
              show ((((fstI K x.1 M).toNat + 0 * _) % M : Nat) : Int) = _
              rw [hF.out, Nat.zero_mul, Nat.add_zero, Nat.mod_eq_of_lt (by omega)]
              omega
            have e2 : (((rwOf K M x).s : Nat) : Int) = stpI K x.1 M := by
              show (((stpI K x.1 M).toNat : Nat) : Int) = _
              rw [hG.out]; omega
            have e3 : (ms0 M ys.length).O.getD i 0 = 0 := getD_rep _ _ _
            rw [e1, e2, e3]
            exact h2
        obtain ⟨ub, uc, rfl, hub, hul⟩ := hou.form (by omega)
        have hcu : ∀ i b, bs[i]? = some b → w7.cell? ⟨ub, i, none⟩ = some (.pointer (some ⟨b, 0, none⟩)) := fun i b hb => by
          have hi := (List.getElem?_eq_some_iff.1 hb).1
          rw [hou.cellAt i (by omega), List.getElem?_map, hb]; rfl
        have hubn : ub ∉ bs := fun h => by
          obtain ⟨i, hi, e⟩ := List.getElem_of_mem h
          have h1 := hbW i ub ys[i] (by rw [List.getElem?_eq_getElem hi, e]) (List.getElem?_eq_getElem (by omega))
          exact h1.2.ne_row hou rfl
        have hpbn : pb ∉ bs := fun h => by have := hbb pb h; omega
        have htbn : tb ∉ bs := fun h => by have := hbb tb h; omega
        have hg1 : 1 ≤ gr := by obtain ⟨r, hr, e⟩ := hR.top; have := hR.wt r hr; omega
        have hg2 : gr ≤ 65535 := hgrr.2.1
        generalize hrs : ys.map (rwOf K M) = rs at *
        rw [hbl]
        have hK7 : Kp w7.heap.size (fun k => k = pb ∨ k ∈ bs) w7 w7 := Kp.refl (Nat.le_refl _)
        replace hT7 := Lib.hid hT7
        have hrs' := Lib.hid hrs
        clear hrs hou hbW hgrr hP7 hf7
        have hbl' := Lib.hid hbl
        clear hbl
        have hubp : ub ≠ pb := by omega
        have htbp : ¬ tb = pb := by omega
        go_loopw [14] (fun gv wr => ∃ st : MS, gv = .int .i64 (st.G : Int) ∧ Hid (resM M gr rs st = resM M gr rs (ms0 M ys.length)) ∧ Hid (InvJ M gr rs 0 st ∨ (st.G = M ∧ InvJ M gr rs rs.length st)) ∧ Hid (MSR wr pb bs rs M st) ∧ Kp w7.heap.size (fun k => k = pb ∨ k ∈ bs) w7 wr) (fun gv _ => M - (intOf gv).toNat)
        case atStart => exact ⟨ms0 M ys.length, rfl, Lib.hid rfl, Lib.hid (.inl hI0), Lib.hid hM0, hK7⟩
        case round =>
          obtain ⟨st, rfl, hres, hinv, hms, hkp⟩ := hrel
          clear hI0 hM0 hK7
          have hGle : st.G ≤ M := by rcases hinv.out with h | h; exact h.gle; omega
          by_cases c1 : st.G < M
          · have hI : Hid (InvJ M gr rs 0 st) := Lib.hid (by rcases hinv.out with h | h; exact h; omega)
            have hrl' := Lib.hid hrl
            clear hrl hinv
            have hny2 : (0 : Int) < (ys.length : Int) := by omega
            go_wp2
            go_loopw [14, 67] (fun gv iv wr => ∃ (s' : MS) (i : Nat), i ≤ ys.length ∧ iv = .int .i64 i ∧ gv = .int .i64 (s'.G : Int) ∧ Hid (InvJ M gr rs i s') ∧ Hid (passFrom M gr (rs.drop i) i s' = passFrom M gr rs 0 st) ∧ Hid (MSR wr pb bs rs M s') ∧ Kp w7.heap.size (fun k => k = pb ∨ k ∈ bs) w7 wr) (fun _ iv _ => ys.length - (intOf iv).toNat)
            case atStart => exact ⟨st, 0, Nat.zero_le _, rfl, rfl, hI, Lib.hid rfl, hms, hkp⟩
            case round =>
              obtain ⟨s', i, hil, rfl, rfl, hI', hpass, hms', hkp'⟩ := hrel
              clear hms hkp
              by_cases c2 : i < ys.length
              · have hib : i < bs.length := by rw [hbl'.out]; exact c2
                have hir : i < rs.length := by rw [hrl'.out]; exact c2
                obtain ⟨b, hb⟩ : ∃ b, Hid (bs[i]? = some b) := ⟨_, Lib.hid (List.getElem?_eq_getElem hib)⟩
                obtain ⟨r, hr⟩ : ∃ r, Hid (rs[i]? = some r) := ⟨_, Lib.hid (List.getElem?_eq_getElem hir)⟩
                have hbm := List.mem_of_getElem? hb.out
                have hci := hkp'.cell hul (fun h => h.elim (fun h => hubp h) (fun h => hubn h)) (hcu i b hb.out)
                have hT8 := (hkp'.block tb (by omega) (fun h => h.elim (fun h => htbp h) (fun h => htbn h))).trans hT7.out
                have hTb := Lib.hid hT8
                have hc1 : wr.cell? ⟨tb, 1, none⟩ = some (.slice (some ⟨pb, 0, none⟩) M pc) := (cell_of_row _ tb 1 _ _ _ hT8).trans rfl
                have hcells := (hms'.out.2.2 i b r hb.out hr.out).cells
                obtain ⟨d0, d1, d2, d3, f0, f2⟩ := hcells
                have ho := hI'.out.onn i hir
                have hol := hI'.out.olt i hir (Nat.le_refl _)
                have hw := hR.wt r (List.mem_of_getElem? hr.out)
                have hstp := Lib.hid (stepM_inv hR hI'.out hr.out)
                have hsdef : Hid (stepM M gr i r s' = if s'.O.getD i 0 + r.w < gr ∨ s'.G = M then { s' with O := s'.O.set i (s'.O.getD i 0 + r.w) } else { P := s'.P.set (pos M r (seekK M s'.P r (s'.K.getD i 0))) (i : Int), K := s'.K.set i (seekK M s'.P r (s'.K.getD i 0)), O := s'.O.set i (s'.O.getD i 0 + r.w - gr), G := s'.G + 1 }) := Lib.hid rfl
                have hnp : Hid (passFrom M gr (rs.drop (i + 1)) (i + 1) (stepM M gr i r s') = passFrom M gr rs 0 st) := Lib.hid (by
                  rw [← hpass.out, List.drop_eq_getElem_cons hir]
                  have e : rs[i] = r := by have := hr.out; rw [List.getElem?_eq_getElem hir] at this; exact Option.some.inj this
                  rw [e]; rfl)
                have hGle' := hI'.out.gle
                have hiO : Hid (i < s'.O.length) := Lib.hid (by rw [hI'.out.lenO]; exact hir)
                have hms2 := Lib.hid (fun x => (hms'.out.drew).owe hbn hpbn hb.out hiO.out x)
                generalize hoi : s'.O.getD i 0 = ow at *
                have hoi' := Lib.hid hoi
                clear hoi
                have hbl2 := hbb b hbm
                have hbu : ¬ b = ub := fun e => hubn (e ▸ hbm)
                have hbt : ¬ b = tb := by omega
                have x1 : IntKind.i64.wrap (ow + r.w) = ow + r.w := IntWalk.i64_in _ (by omega)
                clear hT8
                go_wp2
                go_still_tail 11, (by kernel_rfl)
                have hmA := hms2.out (ow + r.w)
                have hcA : (wr.drew.setCell ⟨b, 2, none⟩ (.int .i64 (ow + r.w))).cell? ⟨b, 2, none⟩ = some (.int .i64 (ow + r.w)) := cell_set_self (w := wr.drew) d2
                have hfA : (wr.drew.setCell ⟨b, 2, none⟩ (.int .i64 (ow + r.w))).frozen? ⟨b, 2, none⟩ = false := (frozen_set wr.drew b 2 2 _).trans f2
                have htA : (wr.drew.setCell ⟨b, 2, none⟩ (.int .i64 (ow + r.w))).cell? ⟨tb, 1, none⟩ = some (.slice (some ⟨pb, 0, none⟩) M pc) := (World.cell?_setCell_far _ _ _ _ hbt).trans hc1
                have hkA := (hkp'.drew).set b 2 (.int .i64 (ow + r.w)) (.inl (.inr hbm))
                by_cases c3 : ow + r.w < gr
                · have hst : Hid (stepM M gr i r s' = { s' with O := s'.O.set i (ow + r.w) }) := Lib.hid (by rw [hsdef.out, if_pos (Or.inl c3)])
                  go_wp2
                  go_roundw
                  case rel => exact ⟨{ s' with O := s'.O.set i (ow + r.w) }, i + 1, by omega, by go_num, rfl, Lib.hid (hst.out ▸ hstp.out), Lib.hid (hst.out ▸ hnp.out), Lib.hid hmA, hkA⟩
                  case measure => simp [intOf]; omega
                · by_cases c4 : s'.G = M
                  · have hst : Hid (stepM M gr i r s' = { s' with O := s'.O.set i (ow + r.w) }) := Lib.hid (by rw [hsdef.out, if_pos (Or.inr c4)])
                    have c4' : (s'.G : Int) = (M : Int) := by omega
                    go_wp2
                    go_roundw
                    case rel => exact ⟨{ s' with O := s'.O.set i (ow + r.w) }, i + 1, by omega, by go_num, rfl, Lib.hid (hst.out ▸ hstp.out), Lib.hid (hst.out ▸ hnp.out), Lib.hid hmA, hkA⟩
                    case measure => simp [intOf]; omega
                  · have hst : Hid (stepM M gr i r s' = { P := s'.P.set (pos M r (seekK M s'.P r (s'.K.getD i 0))) (i : Int), K := s'.K.set i (seekK M s'.P r (s'.K.getD i 0)), O := s'.O.set i (ow + r.w - gr), G := s'.G + 1 }) := Lib.hid (by rw [hsdef.out, if_neg (fun h => h.elim c3 c4)])
                    have c4' : ¬ (s'.G : Int) = (M : Int) := by omega
                    have x2 : IntKind.i64.wrap (ow + r.w - gr) = ow + r.w - gr := IntWalk.i64_in _ (by omega)
                    have x3 : IntKind.i64.wrap ((s'.G : Int) + 1) = (s'.G : Int) + 1 := IntWalk.i64_in _ (by omega)
                    obtain ⟨kf, hkf, hkle, hfree⟩ := ahead_free hR hI'.out hr.out (by omega)
                    obtain ⟨a1, a2, a3, a4⟩ := seekK_spec (M - s'.K.getD i 0) (s'.K.getD i 0) ⟨kf, hkf, hkle, by omega, hfree⟩
                    have hsr := hR.step r (List.mem_of_getElem? hr.out)
                    have hlP := hI'.out.lenP
                    have hlK : Hid (i < s'.K.length) := Lib.hid (by rw [hI'.out.lenK]; exact hir)
                    generalize seekK M s'.P r (s'.K.getD i 0) = k1 at *
                    have hmB := Lib.hid (show MSR ((wr.drew.setCell ⟨b, 2, none⟩ (.int .i64 (ow + r.w))).setCell ⟨b, 2, none⟩ (.int .i64 (ow + r.w - gr))) pb bs rs M { s' with O := s'.O.set i (ow + r.w - gr) } from by
                      have h := hmA.owe hbn hpbn hb.out (by show i < (s'.O.set i _).length; rw [List.length_set]; exact hiO.out) (ow + r.w - gr)
                      rw [List.set_set] at h
                      exact h)
                    have hkB := hkA.set b 2 (.int .i64 (ow + r.w - gr)) (.inl (.inr hbm))
                    have htB := (World.cell?_setCell_far (wr.drew.setCell ⟨b, 2, none⟩ (.int .i64 (ow + r.w))) ⟨b, 2, none⟩ ⟨tb, 1, none⟩ (.int .i64 (ow + r.w - gr)) hbt).trans htA
                    clear hsdef hms2 hfree hkle hkf hms' hkp' hI' hpass
                    replace hmB : Hid (MSR (((wr.setCell ⟨b, 2, none⟩ (.int .i64 (ow + r.w))).setCell ⟨b, 2, none⟩ (.int .i64 (ow + r.w - gr))).drew) pb bs rs M { s' with O := s'.O.set i (ow + r.w - gr) }) := hmB
                    replace hkB : Kp w7.heap.size (fun k => k = pb ∨ k ∈ bs) w7 (((wr.setCell ⟨b, 2, none⟩ (.int .i64 (ow + r.w))).setCell ⟨b, 2, none⟩ (.int .i64 (ow + r.w - gr))).drew) := ⟨hkB.os, hkB.tape, hkB.output, hkB.size, hkB.block⟩
                    replace htB : (((wr.setCell ⟨b, 2, none⟩ (.int .i64 (ow + r.w))).setCell ⟨b, 2, none⟩ (.int .i64 (ow + r.w - gr))).drew).cell? ⟨tb, 1, none⟩ = some (.slice (some ⟨pb, 0, none⟩) M pc) := htB
                    have htB' := Lib.hid htB
                    clear htB
                    go_wp2
                    have htB := htB'.out
                    generalize (((wr.setCell ⟨b, 2, none⟩ (.int .i64 (ow + r.w))).setCell ⟨b, 2, none⟩ (.int .i64 (ow + r.w - gr))).drew) = wB at *
                    have hWB : Hid (WkB wB b (pos M r (s'.K.getD i 0) : Nat) (r.s : Nat) (ow + r.w - gr) r.w) := Lib.hid (by
                      have h := hmB.out.2.2 i b r hb.out hr.out
                      rw [show ({ s' with O := s'.O.set i (ow + r.w - gr) } : MS).O.getD i 0 = ow + r.w - gr from by show (s'.O.set i _).getD i 0 = _; rw [getD_set _ _ _ _ _ hiO.out, if_pos rfl]] at h
                      exact h)
                    have hPB : PB wB pb s'.P := hmB.out.1
                    have hbpb : ¬ pb = b := fun e => hpbn (e ▸ hbm)
                    have hpk : pos M r k1 < M := Nat.mod_lt _ (by omega)
                    have hdN : Hid (∀ W, W = wB.drew → Calls Try.prog 32 #[.pointer (some ⟨b, 0, none⟩), .slice (some ⟨pb, 0, none⟩) M pc] W fun e w' => e = .returned (.int .i64 (pos M r k1 : Nat)) ∧ w'.cell? ⟨tb, 1, none⟩ = some (.slice (some ⟨pb, 0, none⟩) M pc) ∧ w'.frozen? ⟨pb, pos M r k1, none⟩ = false ∧ w'.cell? ⟨pb, pos M r k1, none⟩ = some (.int .i64 (-1)) ∧ Hid (∀ v, v = .int .i64 (i : Int) → MSR (w'.setCell ⟨pb, pos M r k1, none⟩ v) pb bs rs M { P := s'.P.set (pos M r k1) (i : Int), K := s'.K.set i k1, O := s'.O.set i (ow + r.w - gr), G := s'.G + 1 } ∧ Kp w7.heap.size (fun k => k = pb ∨ k ∈ bs) w7 (w'.setCell ⟨pb, pos M r k1, none⟩ v))) := Lib.hid (by
                      rintro W rfl
                      refine (next_any M s'.P r (s'.K.getD i 0) k1 b pb pc (ow + r.w - gr) r.w wB.drew hmx hsr.2 hWB.out hPB hlP hbpb a1 a3 a4).mono ?_
                      rintro e w' ⟨rfl, hg, hs, hW'⟩
                      have hP' := (show PB wB.drew pb s'.P from hPB).other (w' := w') hg (fun e => hbpb (Option.some.inj e))
                      refine ⟨rfl, (World.cell?_of_block (w := wB) (a := ⟨tb, 1, none⟩) (hg.block tb (by have := hkB.size; show tb < wB.heap.size; omega) (fun e => hbt (Option.some.inj e).symm))).trans htB, (World.frozen?_of_block (w := wB) (a := ⟨pb, pos M r k1, none⟩) (hg.block pb hPB.1 (fun e => hbpb (Option.some.inj e)))).trans (hmB.out.2.1 _), hP'.2 _ _ a3, Lib.hid ?_⟩
                      rintro v rfl
                      refine ⟨?_, ((hkB.drew).grown hg (fun j e => by cases e; exact .inl (.inr hbm))).set pb _ _ (.inl (.inl rfl))⟩
                      have h := MSR.take (G := s'.G + 1) (hmB.out.drew) hbn hpbn hb.out hr.out hlK.out hg (k := k1) (by
                        show WkB w' b _ _ ((s'.O.set i (ow + r.w - gr)).getD i 0) _
                        rw [getD_set _ _ _ _ _ hiO.out, if_pos rfl]
                        exact hW')
                      exact h)
                    generalize pos M r k1 = pk at *
                    have z1 : (0 : Int) ≤ (pk : Int) := by omega
                    have z2 : (pk : Int) < (M : Int) := by omega
                    clear hmB hkB hWB hPB a3 a4 htB'
                    go_region_held3 (fun w' => w'.cell? ⟨tb, 1, none⟩ = some (.slice (some ⟨pb, 0, none⟩) M pc))
                      (first | assumption | (exact htB) | (refine (World.cell?_setCell_far _ _ _ _ (by simp; omega)).trans ?_; assumption))
                      (first | (go_at_call 32; refine (hdN.out _ rfl).mono ?_; rintro e w8 ⟨rfl, ht8, hf8, hc8, hfin⟩))
                    go_wp2
                    go_roundw
                    case rel => exact ⟨{ P := s'.P.set pk (i : Int), K := s'.K.set i k1, O := s'.O.set i (ow + r.w - gr), G := s'.G + 1 }, i + 1, by omega, by go_num, by show _ = Value.int .i64 (((s'.G + 1 : Nat)) : Int); go_num, Lib.hid (hst.out ▸ hstp.out), Lib.hid (hst.out ▸ hnp.out), Lib.hid (hfin.out _ rfl).1, (hfin.out _ rfl).2⟩
                    case measure => simp [intOf]; omega
              · have hin : i = ys.length := by omega
                have hps : Hid (passFrom M gr rs 0 st = s') := Lib.hid (by
                  rw [← hpass.out, List.drop_of_length_le (by rw [hrl'.out]; omega)]; rfl)
                have hG' := Lib.hid (pass_G hR hI.out c1)
                have hrp := Lib.hid (resM_pass hR hI.out c1)
                have hIe : Hid (InvJ M gr rs rs.length s') := Lib.hid (by have := hI'.out; rw [hin] at this; rw [hrl'.out]; exact this)
                have hgl := hI'.out.gle
                clear hI' hpass
                go_wp2
                go_roundw
                case rel =>
                  refine ⟨s', rfl, Lib.hid ?_, Lib.hid ?_, hms', hkp'⟩
                  · rw [← hps.out, ← hrp.out]; exact hres.out
                  · by_cases hx : s'.G < M
                    · exact .inl (hIe.out.start hx)
                    · exact .inr ⟨by omega, hIe.out⟩
                case measure => have := hG'.out; rw [hps.out] at this; simp [intOf]; omega
          · have hGM : st.G = M := by omega
            have hlP : st.P.length = M := by rcases hinv.out with h | h; exact h.lenP; exact h.2.lenP
            have hfin := Lib.hid (show plc K ys M = st.P by rw [hpl.out, ← hres.out, resM_end hGM])
            have hTe := Lib.hid ((hkp.block tb (by omega) (fun h => h.elim (fun h => htbp h) (fun h => htbn h))).trans hT7.out)
            have hSe := strs_kp hS7 hkp rfl (fun c hc h => by have h1 := hnb c hc; rcases h with h | h; omega; have := hbb c h; omega)
            have hBe := hkp.toBelow hgT7 (by omega) (fun k hk h => by rcases h with h | h; omega; have := hbb k h; omega) (by have := hkp.size; have := hgT7.size; omega)
            have hPe := hms.out.1
            have hgM' : (st.G : Int) = (M : Int) := by omega
            clear hinv hms hkp hres
            go_wp2
            go_ret2
            rw [hKd.out, hg]
            exact ⟨hBe, .inr ⟨by simp, ys, tb, hperm, hsrt, rfl, by omega, by rw [hfin.out]; exact ⟨nv, pb, pc, by rw [hlP]; exact hTe.out, by rw [hlP]; exact hpc, hPe, hSe⟩⟩⟩
end Go.Proofs.Ytclngmjfhlindaa.Ma
