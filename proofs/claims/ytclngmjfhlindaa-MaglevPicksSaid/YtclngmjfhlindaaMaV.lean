/- The document's table. -/
import Derived.Test.YtclngmjfhlindaaMaU
import Derived.Deep.Cut
import Derived.Maps.AppendAt
namespace Go.Proofs.Ytclngmjfhlindaa.Ma
open Go.RowKit Go.Proofs.Ytclngmjfhlindaa.Sip
set_option linter.unusedVariables false
theorem infoSI : (Try.prog.info? 43).map (fun i => (i.zero, i.size, i.bytes)) = some (some (.slice none 0 0), 1, 24) := by kernel_rfl
def rowV (M : Nat) (p : Nat × Nat) : Value := .slice (some ⟨p.1, 0, none⟩) M p.2
/-- The rows lie in memory. -/
def RowsAt (w : World) (M : Nat) (K : List UInt8) (ys : List Ent) (rb : List (Nat × Nat)) (n1 : Nat) : Prop :=
  ∀ (i : Nat) (p : Nat × Nat) (x : Ent), rb[i]? = some p → ys[i]? = some x → n1 ≤ p.1 ∧ p.1 < w.heap.size ∧ ∀ j, j < M → w.cell? ⟨p.1, j, none⟩ = some (.int .i64 (pos M (rwOf K M x) j : Nat))
def Apart (v : Value) (rb : List (Nat × Nat)) : Prop := ∀ p ∈ rb, v.ownBlock ≠ some p.1
theorem own_ne {w : World} {b1 b2 s1 s2 n1 n2 : Nat} {e1 e2 : TypeId} {v1 v2 : Value} {xs1 xs2 : List Value} (h1 : w.ownsRow b1 e1 s1 v1 n1 xs1) (h2 : w.ownsRow b2 e2 s2 v2 n2 xs2) (he : e1 ≠ e2) : v1.ownBlock = none ∨ v1.ownBlock ≠ v2.ownBlock := by
  rcases h1.2 with ⟨rfl, _⟩ | ⟨g1, c1, cur1, rfl, _, hg1, _⟩
  · exact .inl rfl
  · right
    intro e
    rcases h2.2 with ⟨rfl, _⟩ | ⟨g2, c2, cur2, rfl, _, hg2, _⟩
    · cases e
    · have e2' : g1 = g2 := by simpa [Value.ownBlock] using e
      subst e2'
      rw [hg1] at hg2
      exact he (Obj.cells.inj (Option.some.inj hg2)).2.1
structure Sep (w : World) (v1 v2 v3 : Value) (M : Nat) (K : List UInt8) (ys : List Ent) (rb : List (Nat × Nat)) (n1 : Nat) : Prop where
  ap1 : Apart v1 rb
  two : ∀ j, v2.ownBlock = some j → v3.ownBlock ≠ some j
  ap2 : Apart v2 rb
  ap3 : Apart v3 rb
  rows : RowsAt w M K ys rb n1
theorem rowsAt_snoc {w : World} {M : Nat} {K : List UInt8} {ys : List Ent} {rb : List (Nat × Nat)} {n1 k : Nat} {p : Nat × Nat} {x : Ent} (h : RowsAt w M K ys rb n1) (hl : rb.length = k) (hx : ys[k]? = some x) (h1 : n1 ≤ p.1) (h2 : p.1 < w.heap.size) (h3 : ∀ j, j < M → w.cell? ⟨p.1, j, none⟩ = some (.int .i64 (pos M (rwOf K M x) j : Nat))) : RowsAt w M K ys (rb ++ [p]) n1 := by
  intro i p' x' hp hx'
  rw [List.getElem?_append] at hp
  split at hp
  · exact h i p' x' hp hx'
  · rename_i hil
    have hik : i = k := by
      have := (List.getElem?_eq_some_iff.1 hp).1
      rw [hl] at this hil
      simp at this; omega
    subst hik
    rw [hx] at hx'
    cases hx'
    rw [hl, Nat.sub_self] at hp
    cases hp
    exact ⟨h1, h2, h3⟩
theorem apart_snoc {v : Value} {rb : List (Nat × Nat)} {p : Nat × Nat} (h : Apart v rb) (hp : v.ownBlock ≠ some p.1) : Apart v (rb ++ [p]) := by
  intro q hq
  rcases List.mem_append.1 hq with h1 | h1
  · exact h q h1
  · rw [List.mem_singleton.1 h1]; exact hp
theorem rowsAt_lt {w : World} {M : Nat} {K : List UInt8} {ys : List Ent} {rb : List (Nat × Nat)} {n1 : Nat} (h : RowsAt w M K ys rb n1) (hl : rb.length ≤ ys.length) : ∀ p ∈ rb, n1 ≤ p.1 ∧ p.1 < w.heap.size := by
  intro p hp
  obtain ⟨i, hi, e⟩ := List.getElem_of_mem hp
  have := h i p ys[i] (by rw [List.getElem?_eq_getElem hi, e]) (List.getElem?_eq_getElem (by omega))
  exact ⟨this.1, this.2.1⟩
/-- The block of an appended slice. -/
theorem apart_new {v v' : Value} {w : World} {rb : List (Nat × Nat)} (h : Apart v rb) (hat : v'.ownBlock = v.ownBlock ∨ v'.ownBlock = some w.heap.size) (hlt : ∀ p ∈ rb, p.1 < w.heap.size) : Apart v' rb := by
  intro p hp e
  rcases hat with h1 | h1
  · exact h p hp (h1 ▸ e)
  · rw [h1] at e
    have := hlt p hp
    have := Option.some.inj e
    omega
theorem rowsAt_below {w w' : World} {M : Nat} {K : List UInt8} {ys : List Ent} {rb : List (Nat × Nat)} {n1 : Nat} (h : RowsAt w M K ys rb n1) (hb : Below w.heap.size w w') : RowsAt w' M K ys rb n1 := fun i p x hp hx => by
  obtain ⟨h1, h2, h3⟩ := h i p x hp hx
  exact ⟨h1, Nat.lt_of_lt_of_le h2 hb.size, fun j hj => old2 (h3 j hj) h2 hb⟩
theorem rowsAt_grown {w w' : World} {M : Nat} {K : List UInt8} {ys : List Ent} {rb : List (Nat × Nat)} {n1 : Nat} {r : Option Nat} (h : RowsAt w M K ys rb n1) (hg : w.grownBy w' r) (hne : ∀ p ∈ rb, r ≠ some p.1) : RowsAt w' M K ys rb n1 := fun i p x hp hx => by
  obtain ⟨h1, h2, h3⟩ := h i p x hp hx
  exact ⟨h1, Nat.lt_of_lt_of_le h2 hg.size, fun j hj => (World.cell?_of_block (a := ⟨p.1, j, none⟩) (hg.block p.1 h2 (fun e => hne p (List.mem_of_getElem? hp) e.symm))).trans (h3 j hj)⟩
theorem frozen_set' (w : World) {a b : Addr} {v : Value} : (w.setCell a v).frozen? b = w.frozen? b := World.frozen?_setCell _ _ _ _
/-- The blocks of the rounds: places, taken, next, owed, rows. -/
structure Bl where
  pb : Nat
  tk : Nat
  nb : Nat
  ob : Nat
  vb : Nat
  gb : Nat
  pc : Nat
structure BlOk (B : Bl) (rb : List (Nat × Nat)) : Prop where
  h1 : B.pb ≠ B.tk
  h2 : B.pb ≠ B.nb
  h3 : B.pb ≠ B.ob
  h4 : B.pb ≠ B.vb
  h5 : B.tk ≠ B.nb
  h6 : B.tk ≠ B.ob
  h7 : B.tk ≠ B.vb
  h8 : B.nb ≠ B.ob
  h9 : B.nb ≠ B.vb
  h10 : B.ob ≠ B.vb
  hr : ∀ p ∈ rb, p.1 ≠ B.pb ∧ p.1 ≠ B.tk ∧ p.1 ≠ B.nb ∧ p.1 ≠ B.ob
/-- The state of the document's rounds in memory. -/
structure RS (w : World) (B : Bl) (M : Nat) (K : List UInt8) (ys : List Ent) (rb : List (Nat × Nat)) (n1 : Nat) (P : List Int) (T : List Bool) (N : List Nat) (O : List Int) : Prop where
  ltp : B.pb < w.heap.size
  ltt : B.tk < w.heap.size
  ltn : B.nb < w.heap.size
  lto : B.ob < w.heap.size
  ltv : B.vb < w.heap.size
  cp : ∀ j p, P[j]? = some p → w.cell? ⟨B.pb, j, none⟩ = some (.string (mk (nameAt (ys.map Prod.fst) p)))
  ct : ∀ j b, T[j]? = some b → w.cell? ⟨B.tk, j, none⟩ = some (.bool b)
  cn : ∀ i k, N[i]? = some k → w.cell? ⟨B.nb, i, none⟩ = some (.int .i64 (k : Nat))
  co : ∀ i x, O[i]? = some x → w.cell? ⟨B.ob, i, none⟩ = some (.int .i64 x)
  cv : ∀ i p, rb[i]? = some p → w.cell? ⟨B.vb, i, none⟩ = some (rowV M p)
  fp : ∀ j, w.frozen? ⟨B.pb, j, none⟩ = false
  ft : ∀ j, w.frozen? ⟨B.tk, j, none⟩ = false
  fn : ∀ j, w.frozen? ⟨B.nb, j, none⟩ = false
  fo : ∀ j, w.frozen? ⟨B.ob, j, none⟩ = false
  rows : RowsAt w M K ys rb n1
  op : w.ownsRow B.gb 9 1 (.slice (some ⟨B.pb, 0, none⟩) M B.pc) M (P.map (fun p => Value.string (mk (nameAt (ys.map Prod.fst) p))))
section
variable {w w' : World} {B : Bl} {M n1 : Nat} {K : List UInt8} {ys : List Ent} {rb : List (Nat × Nat)} {P : List Int} {T : List Bool} {N : List Nat} {O : List Int}
theorem RS.below (h : RS w B M K ys rb n1 P T N O) (hb : Below w.heap.size w w') : RS w' B M K ys rb n1 P T N O :=
  ⟨Nat.lt_of_lt_of_le h.ltp hb.size, Nat.lt_of_lt_of_le h.ltt hb.size, Nat.lt_of_lt_of_le h.ltn hb.size, Nat.lt_of_lt_of_le h.lto hb.size, Nat.lt_of_lt_of_le h.ltv hb.size,
   fun j p hj => old2 (h.cp j p hj) h.ltp hb, fun j p hj => old2 (h.ct j p hj) h.ltt hb, fun j p hj => old2 (h.cn j p hj) h.ltn hb, fun j p hj => old2 (h.co j p hj) h.lto hb, fun j p hj => old2 (h.cv j p hj) h.ltv hb,
   fun j => (hb.frozen (p := ⟨B.pb, j, none⟩) h.ltp).trans (h.fp j), fun j => (hb.frozen (p := ⟨B.tk, j, none⟩) h.ltt).trans (h.ft j), fun j => (hb.frozen (p := ⟨B.nb, j, none⟩) h.ltn).trans (h.fn j), fun j => (hb.frozen (p := ⟨B.ob, j, none⟩) h.lto).trans (h.fo j),
   rowsAt_below h.rows hb, own_below h.op hb⟩
theorem RS.drew (h : RS w B M K ys rb n1 P T N O) : RS w.drew B M K ys rb n1 P T N O := h.below ⟨rfl, rfl, rfl, Nat.le_refl _, fun _ _ => rfl⟩
theorem cell_far {b c i j : Nat} (v : Value) (h : b ≠ c) : (w.setCell ⟨b, i, none⟩ v).cell? ⟨c, j, none⟩ = w.cell? ⟨c, j, none⟩ := World.cell?_setCell_far _ _ _ _ h
theorem set_cells {α : Type} {b i : Nat} {l : List α} {f : α → Value} (h : ∀ j x, l[j]? = some x → w.cell? ⟨b, j, none⟩ = some (f x)) (a : α) : ∀ j x, (l.set i a)[j]? = some x → (w.setCell ⟨b, i, none⟩ (f a)).cell? ⟨b, j, none⟩ = some (f x) := by
  intro j x hj
  rw [List.getElem?_set] at hj
  split at hj
  · rename_i e
    subst e
    split at hj
    · rename_i hlt
      cases hj
      exact cell_set_self (h i l[i] (List.getElem?_eq_getElem hlt))
    · cases hj
  · rename_i e
    exact (cell_set_ne w b j i _ (fun e2 => e e2.symm)).trans (h j x hj)
theorem sz_set {b i : Nat} {v : Value} : (w.setCell ⟨b, i, none⟩ v).heap.size = w.heap.size := by simp [World.setCell]
theorem rows_set (h : RowsAt w M K ys rb n1) {b i : Nat} {v : Value} (hb : ∀ p ∈ rb, p.1 ≠ b) : RowsAt (w.setCell ⟨b, i, none⟩ v) M K ys rb n1 :=
  rowsAt_grown h (grown_set w b i v) (fun p hp e => hb p hp (Option.some.inj e).symm)
theorem row_other {base e s n c g b : Nat} {xs : List Value} (h : w.ownsRow base e s (.slice (some ⟨g, 0, none⟩) n c) n xs) (hb : g ≠ b) (i : Nat) (v : Value) : (w.setCell ⟨b, i, none⟩ v).ownsRow base e s (.slice (some ⟨g, 0, none⟩) n c) n xs := ownsRow_setCell_other h (a := ⟨b, i, none⟩) (fun e => hb (Option.some.inj e)) v
theorem RS.owe (hB : BlOk B rb) (h : RS w B M K ys rb n1 P T N O) (i : Nat) (x : Int) : RS (w.setCell ⟨B.ob, i, none⟩ (.int .i64 x)) B M K ys rb n1 P T N (O.set i x) :=
  ⟨by rw [sz_set]; exact h.ltp, by rw [sz_set]; exact h.ltt, by rw [sz_set]; exact h.ltn, by rw [sz_set]; exact h.lto, by rw [sz_set]; exact h.ltv,
   fun j p hj => (cell_far _ hB.h3.symm).trans (h.cp j p hj), fun j p hj => (cell_far _ hB.h6.symm).trans (h.ct j p hj), fun j p hj => (cell_far _ hB.h8.symm).trans (h.cn j p hj), set_cells (f := fun x => Value.int .i64 x) h.co x, fun j p hj => (cell_far _ hB.h10).trans (h.cv j p hj),
   fun j => (frozen_set' w).trans (h.fp j), fun j => (frozen_set' w).trans (h.ft j), fun j => (frozen_set' w).trans (h.fn j), fun j => (frozen_set' w).trans (h.fo j), rows_set h.rows (fun p hp => (hB.hr p hp).2.2.2), row_other h.op hB.h3 _ _⟩
theorem RS.nxt (hB : BlOk B rb) (h : RS w B M K ys rb n1 P T N O) (i k : Nat) : RS (w.setCell ⟨B.nb, i, none⟩ (.int .i64 (k : Nat))) B M K ys rb n1 P T (N.set i k) O :=
  ⟨by rw [sz_set]; exact h.ltp, by rw [sz_set]; exact h.ltt, by rw [sz_set]; exact h.ltn, by rw [sz_set]; exact h.lto, by rw [sz_set]; exact h.ltv,
   fun j p hj => (cell_far _ hB.h2.symm).trans (h.cp j p hj), fun j p hj => (cell_far _ hB.h5.symm).trans (h.ct j p hj), set_cells (f := fun k : Nat => Value.int .i64 (k : Nat)) h.cn k, fun j p hj => (cell_far _ hB.h8).trans (h.co j p hj), fun j p hj => (cell_far _ hB.h9).trans (h.cv j p hj),
   fun j => (frozen_set' w).trans (h.fp j), fun j => (frozen_set' w).trans (h.ft j), fun j => (frozen_set' w).trans (h.fn j), fun j => (frozen_set' w).trans (h.fo j), rows_set h.rows (fun p hp => (hB.hr p hp).2.2.1), row_other h.op hB.h2 _ _⟩
theorem RS.tkn (hB : BlOk B rb) (h : RS w B M K ys rb n1 P T N O) (i : Nat) (b : Bool) : RS (w.setCell ⟨B.tk, i, none⟩ (.bool b)) B M K ys rb n1 P (T.set i b) N O :=
  ⟨by rw [sz_set]; exact h.ltp, by rw [sz_set]; exact h.ltt, by rw [sz_set]; exact h.ltn, by rw [sz_set]; exact h.lto, by rw [sz_set]; exact h.ltv,
   fun j p hj => (cell_far _ hB.h1.symm).trans (h.cp j p hj), set_cells (f := fun b => Value.bool b) h.ct b, fun j p hj => (cell_far _ hB.h5).trans (h.cn j p hj), fun j p hj => (cell_far _ hB.h6).trans (h.co j p hj), fun j p hj => (cell_far _ hB.h7).trans (h.cv j p hj),
   fun j => (frozen_set' w).trans (h.fp j), fun j => (frozen_set' w).trans (h.ft j), fun j => (frozen_set' w).trans (h.fn j), fun j => (frozen_set' w).trans (h.fo j), rows_set h.rows (fun p hp => (hB.hr p hp).2.1), row_other h.op hB.h1 _ _⟩
theorem rs_plc (hB : BlOk B rb) (h : RS w B M K ys rb n1 P T N O) (i : Nat) (x : Int) : RS (w.setCell ⟨B.pb, i, none⟩ (.string (mk (nameAt (ys.map Prod.fst) x)))) B M K ys rb n1 (P.set i x) T N O :=
  ⟨by rw [sz_set]; exact h.ltp, by rw [sz_set]; exact h.ltt, by rw [sz_set]; exact h.ltn, by rw [sz_set]; exact h.lto, by rw [sz_set]; exact h.ltv,
   set_cells (f := fun x => Value.string (mk (nameAt (ys.map Prod.fst) x))) h.cp x, fun j p hj => (cell_far _ hB.h1).trans (h.ct j p hj), fun j p hj => (cell_far _ hB.h2).trans (h.cn j p hj), fun j p hj => (cell_far _ hB.h3).trans (h.co j p hj), fun j p hj => (cell_far _ hB.h4).trans (h.cv j p hj),
   fun j => (frozen_set' w).trans (h.fp j), fun j => (frozen_set' w).trans (h.ft j), fun j => (frozen_set' w).trans (h.fn j), fun j => (frozen_set' w).trans (h.fo j), rows_set h.rows (fun p hp => (hB.hr p hp).1), by rw [List.map_set]; exact (h.op.stored i _).1⟩
end
theorem set_self {α : Type} {l : List α} {i : Nat} {a : α} (h : l[i]? = some a) : l.set i a = l := by
  apply List.ext_getElem?
  intro j
  rw [List.getElem?_set]
  split
  · rename_i e
    subst e
    rw [if_pos (List.getElem?_eq_some_iff.1 h).1, h]
  · rfl
theorem rs_drawn {w : World} {B : Bl} {M n1 : Nat} {K : List UInt8} {ys : List Ent} {rb : List (Nat × Nat)} {P : List Int} {T : List Bool} {N : List Nat} {O : List Int} (h : RS w B M K ys rb n1 P T N O) (n : Nat) : RS (w.drewN n) B M K ys rb n1 P T N O := h.below ⟨rfl, rfl, rfl, Nat.le_refl _, fun _ _ => rfl⟩
theorem kp_drawn {n0 : Nat} {X : Nat → Prop} {a b : World} (h : Kp n0 X a b) (n : Nat) : Kp n0 X a (b.drewN n) := ⟨h.os, h.tape, h.output, h.size, h.block⟩
theorem kp_weak {n0 : Nat} {X : Nat → Prop} {a b : World} (h : Kp n0 X a b) {n1 : Nat} (hn : n1 ≤ n0) : Kp n1 X a b := ⟨h.os, h.tape, h.output, Nat.le_trans hn h.size, fun k hk => h.block k (by omega)⟩
theorem rep_snoc (k : Nat) (v : Value) : List.replicate k v ++ [v] = List.replicate (k + 1) v := by rw [List.replicate_succ']
set_option maxRecDepth 100000 in
set_option maxHeartbeats 8000000 in
theorem refBuild_any (K : List UInt8) (hK : K.length = 16) (xs : List Ent) (M : Nat) (hok : OkM xs (M : Int)) (v : Value) (w : World) (hv : Ents w v xs) (hT : ∀ x ∈ xs, x.1.length ≤ 1000) :
    Calls Try.prog 14 #[.string (mk K), v, .int .i64 M] w fun e w' => ∃ u, e = .returned u ∧ OwnStrs w' w.heap.size u ((plc K (insAll xs) M).map (nameAt ((insAll xs).map Prod.fst))) ∧ Below w.heap.size w w' := by
  obtain ⟨i0, hi, hz0, hz1, hz2⟩ := info_parts infoStr
  obtain ⟨i1, hi1, hy0, hy1, hy2⟩ := info_parts infoI
  obtain ⟨i2, hi2, hx0, hx1, hx2⟩ := info_parts infoSI
  obtain ⟨i3, hi3, hu0, hu1, hu2⟩ := info_parts infoB
  have hb0 : Below w.heap.size w w := Below.refl _ _
  have hm1 := hok.1.1
  have hm2 := hok.1.2.1
  have hlen := hok.2.2.1
  have hperm := insAll_perm xs
  have hok' := okM_perm hperm hok
  go_enter Try.func14, Try.ntmps14
  go_wp2
  have ho0 : (w.alloc (.cells #[] 9)).ownsRow w.heap.size 9 1 (.slice (some ⟨w.heap.size, 0, none⟩) 0 0) 0 (List.replicate 0 (.string ⟨#[]⟩)) := World.ownsRow_lit w #[] 0 (Nat.le_refl _) (by unfold maxLen; omega) rfl
  have hb1 := hb0.alloc (Nat.le_refl _) (.cells #[] 9)
  generalize w.alloc (.cells #[] 9) = w0 at *
  generalize hg : w.heap.size = g at *
  go_loopw [7, 8] (fun u i wr => ∃ (k : Nat) (u0 : Value), u0 = u ∧ k ≤ M ∧ i = .int .i64 k ∧ wr.ownsRow g 9 1 u k (List.replicate k (.string ⟨#[]⟩)) ∧ Below g w wr) (fun _ i _ => M - (intOf i).toNat)
  case atStart => exact ⟨0, _, rfl, Nat.zero_le _, rfl, ho0, hb1⟩
  case round =>
    obtain ⟨k, u, rfl, hk, rfl, hown, hb⟩ := hrel
    by_cases c1 : k < M
    · have hgw : g ≤ wr.heap.size := by have := hb.size; omega
      have hbk := heap_alloc_new wr (Obj.cells #[.string ⟨#[]⟩] 9)
      have hrs := Lib.hid (rep_snoc k (.string ⟨#[]⟩))
      go_wp2_with (at_builtin; go_must (refine wpList_append_own _ rfl _ _ 36 rfl g 9 i0 _ 1 16 Try.underlying36 hi hz0 hz1 hz2 rfl (by decide) _ _ _ rfl (hown.alloc _) ⟨_, 0, none⟩ 1 1 [.string ⟨#[]⟩] rfl rfl (World.news_of_block hbk) (by simp [Value.oneCell']) (by unfold maxLen; omega) (by omega) (by simp; omega) ?_; intro v' w5 hown' hgrow _))
      go_roundw
      case rel => exact ⟨k + 1, _, rfl, by omega, by go_num, by rw [← hrs.out]; exact hown', grow_low (hb.alloc hgw _) (by simp; omega) hgrow (fun b e => (hown.lt b e).1)⟩
      case measure => simp [intOf]; omega
    · have hkM : M = k := by omega
      subst hkM
      have hvr : Ents wr v xs := by rw [← hg] at hb; exact hv.below hb
      have dS := refSorted_any xs v wr hvr (by omega) hT
      obtain ⟨pb, pc, rfl, hpb1, hpb2⟩ := hown.form (by omega)
      go_upto_region 7 with (go_at_call 20; refine dS.mono ?_; rintro e w1 ⟨uS, rfl, hownS, hbS⟩)
      have hEy := row_ents hownS
      have hyl : (insAll xs).length = xs.length := hperm.length_eq
      have hTy : ∀ x ∈ insAll xs, x.1.length ≤ 1000 := fun x hx => hT x (hperm.mem_iff.1 hx)
      have hP1 := own_below hown hbS
      have hbt1 : Below g w w1 := hb.trans (hbS.mono (by have := hb.size; omega))
      have hPc : ∀ j, j < M → w1.cell? ⟨pb, j, none⟩ = some (.string ⟨#[]⟩) := fun j hj => by rw [hP1.cellAt j (by omega), List.getElem?_replicate, if_pos hj]
      have hPf : ∀ j, w1.frozen? ⟨pb, j, none⟩ = false := fun j => hP1.frozenAt j
      have hpb3 : pb < w1.heap.size := Nat.lt_of_lt_of_le hpb2 hbS.size
      have hgw1 : g < w1.heap.size := by omega
      have hylen : (insAll xs).length ≤ 1024 := by omega
      have hSb : ∀ j, uS.ownBlock = some j → pb < j := fun j e => by have := (hownS.lt j e).1; omega
      have hgood := hok'.2.2.2
      have hrngs := greatest_rng (insAll xs) hgood.1
      generalize hys0 : insAll xs = ys at *
      have hys := Lib.hid hys0
      clear hys0
      obtain ⟨A, cp, rfl, hcp, hrS⟩ := hEy
      clear hownS hbS dS hvr hown hb hv hT hb1 ho0 hyl
      have oA := World.ownsRow_lit (base := w1.heap.size) (e := 43) (size := 1) w1 #[] 0 (Nat.le_refl _) (by unfold maxLen; omega) rfl
      have oB := World.ownsRow_lit (base := w1.heap.size) (e := 3) (size := 1) (w1.alloc (.cells #[] 43)) #[] 0 (by simp) (by unfold maxLen; omega) rfl
      have oC := World.ownsRow_lit (base := w1.heap.size) (e := 3) (size := 1) ((w1.alloc (.cells #[] 43)).alloc (.cells #[] 3)) #[] 0 (by simp; omega) (by unfold maxLen; omega) rfl
      replace oA := (oA.alloc (.cells #[] 3)).alloc (.cells #[] 3)
      replace oB := oB.alloc (.cells #[] 3)
      have hK0 : Kp w1.heap.size (fun _ => False) w1 (((w1.alloc (.cells #[] 43)).alloc (.cells #[] 3)).alloc (.cells #[] 3)) := (((Kp.refl (Nat.le_refl _)).alloc _).alloc _).alloc _
      simp only [World.size_alloc] at oB oC
      go_upto_region 11 with (fail)
      generalize ((w1.alloc (.cells #[] 43)).alloc (.cells #[] 3)).alloc (.cells #[] 3) = w2 at *
      go_wp2
      generalize hn1 : w1.heap.size = n1 at *
      go_loopw [10, 11, 12, 13, 38] (fun av bv cv gv iv wr => ∃ (k : Nat) (rb : List (Nat × Nat)) (v1 v2 v3 : Value), v1 = av ∧ v2 = bv ∧ v3 = cv ∧ k ≤ ys.length ∧ iv = .int .i64 k ∧ gv = .int .i64 (greatest (ys.take k)) ∧ Hid (rb.length = k) ∧ wr.ownsRow n1 43 1 v1 k (rb.map (rowV M)) ∧ wr.ownsRow n1 3 1 v2 k (List.replicate k (.int .i64 0)) ∧ wr.ownsRow n1 3 1 v3 k (List.replicate k (.int .i64 0)) ∧ Hid (Sep wr v1 v2 v3 M K ys rb n1) ∧ Kp n1 (fun _ => False) w1 wr) (fun _ _ _ _ iv _ => ys.length - (intOf iv).toNat)
      case atStart => exact ⟨0, [], _, _, _, rfl, rfl, rfl, Nat.zero_le _, rfl, rfl, Lib.hid rfl, oA, oB, oC, Lib.hid ⟨(by intro p hp; cases hp), (by intro j h1 h2; simp [Value.ownBlock] at h1 h2; omega), (by intro p hp; cases hp), (by intro p hp; cases hp), (by intro i p x hp; simp at hp)⟩, hK0⟩
      case round =>
        obtain ⟨k, rb, v1, v2, v3, rfl, rfl, rfl, hk, rfl, rfl, hrl, o1, o2, o3, hsep, hKp⟩ := hrel
        by_cases c2 : k < ys.length
        · obtain ⟨b, o, rfl, hbl, hxF⟩ := hrS (by omega)
          obtain ⟨h1, h2⟩ := hxF k ys[k] (List.getElem?_eq_getElem c2)
          have hc0 := hKp.cell (by omega) (fun h => h) h1
          have hc1 := hKp.cell (by omega) (fun h => h) h2
          have hxl := hTy ys[k] (by simp)
          have hwx := hgood.1 ys[k] (by simp)
          have hgs := Lib.hid (greatest_succ ys k c2)
          have hgr := greatest_rng (ys.take k) (fun x hx => hgood.1 x (List.mem_of_mem_take hx))
          obtain ⟨hgr1, hgr2, _, _⟩ := hgr
          have hyk : Hid (ys[k]? = some ys[k]) := Lib.hid (List.getElem?_eq_getElem c2)
          generalize ys[k] = x at *
          generalize greatest (ys.take k) = gr at *
          clear h1 h2 hxF
          obtain ⟨s1, s2, p1, p2, hs1, hs2, hl1, hl2, hp1, hp2, hq1, hq2, hF, hG⟩ := nums K x.1 M (by omega) (by omega)
          obtain ⟨f, rfl⟩ := Int.eq_ofNat_of_zero_le hq1.1
          obtain ⟨st, rfl⟩ := Int.eq_ofNat_of_zero_le hq2.1
          have dS1 : ∀ W, Calls Try.prog 34 #[.string (mk K), .string (mk (offs ++ x.1))] W fun e w' => e = .returned (.int .u64 (s1 : Int)) ∧ Below W.heap.size W w' := fun W => (refSum_any (mk K) (offs ++ x.1) (by rw [mk_size, hK]) (by simp [offs]; omega) W).mono (by
            rintro e w' ⟨rfl, hb⟩
            refine ⟨?_, hb⟩
            have hr := sumI_range K (offs ++ x.1)
            rw [← hs1, Int.toNat_of_nonneg hr.1]; rfl)
          have dS2 : ∀ W, Calls Try.prog 34 #[.string (mk K), .string (mk (steps ++ x.1))] W fun e w' => e = .returned (.int .u64 (s2 : Int)) ∧ Below W.heap.size W w' := fun W => (refSum_any (mk K) (steps ++ x.1) (by rw [mk_size, hK]) (by simp [steps]; omega) W).mono (by
            rintro e w' ⟨rfl, hb⟩
            refine ⟨?_, hb⟩
            have hr := sumI_range K (steps ++ x.1)
            rw [← hs2, Int.toNat_of_nonneg hr.1]; rfl)
          have dB1 : ∀ W, Calls Try.prog 21 #[.int .u64 s1, .int .i64 M] W fun e w' => e = .returned (.int .i64 (f : Int)) ∧ w' = W := fun W => by rw [← hp1]; exact refBelow_any s1 hl1 M (by omega) W
          have dB2 : ∀ W, Calls Try.prog 21 #[.int .u64 s2, .int .i64 ((M : Int) - 1)] W fun e w' => e = .returned (.int .i64 (st : Int)) ∧ w' = W := fun W => by rw [← hp2]; exact refBelow_any s2 hl2 _ (by omega) W
          have hcat1 : ∀ W : World, (Op.stringOp .add ⟨#[111, 102, 102, 115, 101, 116]⟩ (mk x.1)).run Try.prog W = .ok (.string (mk (offs ++ x.1))) W := fun W => by
            rw [cat_run _ _ (by rw [mk_size]; show 6 + _ ≤ _; omega)]; congr 2
          have hcat2 : ∀ W : World, (Op.stringOp .add ⟨#[115, 116, 101, 112]⟩ (mk x.1)).run Try.prog W = .ok (.string (mk (steps ++ x.1))) W := fun W => by
            rw [cat_run _ _ (by rw [mk_size]; show 4 + _ ≤ _; omega)]; congr 2
          have hw2 : IntKind.i64.wrap ((M : Int) - 1) = (M : Int) - 1 := IntWalk.i64_in _ (by omega)
          have hw3 : IntKind.i64.wrap (1 + (st : Int)) = 1 + (st : Int) := IntWalk.i64_in _ (by omega)
          have hrw : Hid (rwOf K M x = ⟨f, st + 1, x.2⟩) := Lib.hid (by unfold rwOf; rw [hF.out, hG.out]; congr 1; omega)
          clear hs1 hs2 hp1 hp2 hF hG
          generalize offs ++ x.1 = ox at *
          generalize steps ++ x.1 = sx at *
          go_upto_region 14 with (fail)
          have hE := new_two wr (.string (mk x.1)) (.int .i64 x.2) 42
          obtain ⟨hE0, hE1⟩ := hE
          have o1E := o1.alloc (.cells #[.string (mk x.1), .int .i64 x.2] 42)
          have o2E := o2.alloc (.cells #[.string (mk x.1), .int .i64 x.2] 42)
          have o3E := o3.alloc (.cells #[.string (mk x.1), .int .i64 x.2] 42)
          have hrE := rowsAt_below hsep.out.rows ((Below.refl _ wr).alloc (Nat.le_refl _) (.cells #[.string (mk x.1), .int .i64 x.2] 42))
          have hKE := hKp.alloc (.cells #[.string (mk x.1), .int .i64 x.2] 42)
          have hzE : wr.heap.size < (wr.alloc (.cells #[.string (mk x.1), .int .i64 x.2] 42)).heap.size := by simp
          have l1 := o1.lt
          have l2 := o2.lt
          have l3 := o3.lt
          have hqn := hKp.size
          generalize wr.alloc (.cells #[.string (mk x.1), .int .i64 x.2] 42) = wE at *
          generalize wr.heap.size = q at *
          clear hc0 hc1 o1 o2 o3 hKp
          go_upto_region 15 with (first
            | (go_at_call 34; with_reducible refine (dS1 _).mono ?_; rintro e w5 ⟨rfl, hb5⟩)
            | (go_at_call 21; with_reducible refine (dB1 _).mono ?_; rintro e w6 ⟨rfl, hw⟩; rw [hw]; clear hw w6))
          have o15 := own_below o1E hb5
          have o25 := own_below o2E hb5
          have o35 := own_below o3E hb5
          have hr5 := rowsAt_below hrE hb5
          have hK5 := hKE.below hb5
          have hE05 := old2 hE0 hzE hb5
          have hE15 := old2 hE1 hzE hb5
          have hz5 : q < w5.heap.size := Nat.lt_of_lt_of_le hzE hb5.size
          clear o1E o2E o3E hrE hKE hE0 hE1 hb5 dS1 dB1 hzE
          go_upto_region 16 with (first
            | (go_at_call 34; with_reducible refine (dS2 _).mono ?_; rintro e w7 ⟨rfl, hb7⟩)
            | (go_at_call 21; with_reducible refine (dB2 _).mono ?_; rintro e w6 ⟨rfl, hw⟩; rw [hw]; clear hw w6))
          have o17 := own_below o15 hb7
          have o27 := own_below o25 hb7
          have o37 := own_below o35 hb7
          have hr7 := rowsAt_below hr5 hb7
          have hK7 := hK5.below hb7
          have hE07 := old2 hE05 hz5 hb7
          have hE17 := old2 hE15 hz5 hb7
          have hz7 : q < w7.heap.size := Nat.lt_of_lt_of_le hz5 hb7.size
          clear o15 o25 o35 hr5 hK5 hE05 hE15 hb7 dS2 dB2 hz5
          have hst1 : (1 + (st : Int)) = ((st + 1 : Nat) : Int) := by omega
          have dRw : ∀ W, Calls Try.prog 35 #[.int .i64 M, .int .i64 f, .int .i64 (1 + (st : Int))] W fun e w' => ∃ v, e = .returned v ∧ w'.ownsRow W.heap.size 3 1 v M (rowI M f (st + 1) M) ∧ Below W.heap.size W w' := fun W => by rw [hst1]; exact refRow_any M f (st + 1) (by omega) (by omega) (by omega) (by omega) W
          clear hst1
          go_upto_region 17 with (first
            | (go_at_call 35; with_reducible refine (dRw _).mono ?_; rintro e w8 ⟨vr, rfl, hrow8, hb8⟩; obtain ⟨rbk, rck, rfl, hrb1, hrb2⟩ := hrow8.form (by omega); have hbk8 := heap_alloc_new w8 (Obj.cells #[.slice (some ⟨rbk, 0, none⟩) M rck] 43); have o18 := own_below o17 hb8)
            | (at_builtin; go_must (refine wpList_append_own_at _ rfl _ _ 73 rfl n1 43 i2 _ 1 24 Try.underlying73 hi2 hx0 hx1 hx2 rfl (by decide) _ _ _ rfl (o18.alloc _) ⟨_, 0, none⟩ 1 1 [.slice (some ⟨rbk, 0, none⟩) M rck] rfl rfl (World.news_of_block hbk8) (by simp [Value.oneCell']) (by unfold maxLen; omega) (by omega) (by simp; omega) ?_; intro v1' w9 o19 hg9 _ hat9)))
          -- behind the row's append
          have hz8 : q < w8.heap.size := Nat.lt_of_lt_of_le hz7 hb8.size
          have hne2 := own_ne (own_below o27 hb8) (own_below o17 hb8) (by decide)
          have hne3 := own_ne (own_below o37 hb8) (own_below o17 hb8) (by decide)
          have o29 := ((own_below o27 hb8).alloc (.cells #[.slice (some ⟨rbk, 0, none⟩) M rck] 43)).kept hg9 hne2
          have o39 := ((own_below o37 hb8).alloc (.cells #[.slice (some ⟨rbk, 0, none⟩) M rck] 43)).kept hg9 hne3
          have hb88 : Below w8.heap.size w8 (w8.alloc (.cells #[.slice (some ⟨rbk, 0, none⟩) M rck] 43)) := (Below.refl _ w8).alloc (Nat.le_refl _) _
          have hsz9 : w8.heap.size + 1 ≤ w9.heap.size := by have := hg9.size; simpa using this
          have n1k : v1.ownBlock ≠ some rbk := fun e => by have := (l1 _ e).2; omega
          have n2k : v2.ownBlock ≠ some rbk := fun e => by have := (l2 _ e).2; omega
          have n3k : v3.ownBlock ≠ some rbk := fun e => by have := (l3 _ e).2; omega
          have hr9' := rowsAt_grown (rowsAt_below (rowsAt_below hr7 hb8) hb88) hg9 hsep.out.ap1
          have hcell9 : ∀ j, j < M → w9.cell? ⟨rbk, j, none⟩ = some (.int .i64 (pos M (rwOf K M x) j : Nat)) := fun j hj => by
            have h1 : w8.cell? ⟨rbk, j, none⟩ = some (.int .i64 (pos M (rwOf K M x) j : Nat)) := by
              rw [hrow8.cellAt j (by omega), hrw.out]
              unfold rowI
              rw [List.getElem?_map, List.getElem?_range hj]; rfl
            exact (World.cell?_of_block (a := ⟨rbk, j, none⟩) (hg9.block rbk (by simp; omega) (fun e => n1k e.symm))).trans (old2 h1 hrb2 hb88)
          have hr9 := rowsAt_snoc (p := (rbk, rck)) hr9' hrl.out hyk.out (by show n1 ≤ rbk; omega) (by show rbk < w9.heap.size; omega) hcell9
          have hrbl : (rb ++ [(rbk, rck)]).length ≤ ys.length := by rw [List.length_append, hrl.out]; simp; omega
          have hlt9 := rowsAt_lt hr9 hrbl
          have a1 : Apart v1' (rb ++ [(rbk, rck)]) := apart_new (w := w8.alloc (.cells #[.slice (some ⟨rbk, 0, none⟩) M rck] 43)) (apart_snoc hsep.out.ap1 n1k) hat9 (fun p hp => by
            rcases List.mem_append.1 hp with h | h
            · have := rowsAt_lt (rowsAt_below hr7 hb8) (by rw [hrl.out]; omega) p h
              simp; omega
            · rw [List.mem_singleton.1 h]; show rbk < _; simp; omega)
          have a2 := apart_snoc (p := (rbk, rck)) hsep.out.ap2 n2k
          have a3 := apart_snoc (p := (rbk, rck)) hsep.out.ap3 n3k
          have h23 := hsep.out.two
          have hK9 := ((hK7.below hb8).alloc (.cells #[.slice (some ⟨rbk, 0, none⟩) M rck] 43)).grown hg9 (fun j e => .inr (l1 j e).1)
          have hE19 : w9.cell? ⟨q, 1, none⟩ = some (.int .i64 x.2) := (World.cell?_of_block (a := ⟨q, 1, none⟩) (hg9.block q (by simp; omega) (fun e => by have := (l1 q e.symm).2; omega))).trans (old2 (old2 hE17 hz7 hb8) hz8 hb88)
          have hbk9 := heap_alloc_new w9 (Obj.cells #[.int .i64 0] 3)
          have hmap := Lib.hid (show (rb ++ [(rbk, rck)]).map (rowV M) = rb.map (rowV M) ++ [.slice (some ⟨rbk, 0, none⟩) M rck] by rw [List.map_append]; rfl)
          have hrl9 : Hid ((rb ++ [(rbk, rck)]).length = k + 1) := Lib.hid (by rw [List.length_append, hrl.out]; rfl)
          rw [← hmap.out] at o19
          generalize rb ++ [(rbk, rck)] = rb9 at *
          have hz9 : q < w9.heap.size := by omega
          have hn9 : n1 ≤ w9.heap.size := hK9.size
          clear hr9' hcell9 hr7 hK7 hE07 hE17 o17 o27 o37 hrow8 hbk8 o18 hb88 hmap hg9 hat9 hne2 hne3 hsep hb8 n1k n2k n3k dRw
          go_upto_region 18 with (at_builtin; go_must (refine wpList_append_own_at _ rfl _ _ 43 rfl n1 3 i1 _ 1 8 Try.underlying43 hi1 hy0 hy1 hy2 rfl (by decide) _ _ _ rfl (o29.alloc _) ⟨_, 0, none⟩ 1 1 [.int .i64 0] rfl rfl (World.news_of_block hbk9) (by simp [Value.oneCell']) (by unfold maxLen; omega) (by omega) (by simp; omega) ?_; intro v2' w10 o210 hg10 _ hat10))
          have hb99 : Below w9.heap.size w9 (w9.alloc (.cells #[.int .i64 0] 3)) := (Below.refl _ w9).alloc (Nat.le_refl _) _
          have o110 := (o19.alloc (.cells #[.int .i64 0] 3)).kept hg10 (own_ne o19 o29 (by decide))
          have o310 := (o39.alloc (.cells #[.int .i64 0] 3)).kept hg10 (by
            rcases hq3 : v3.ownBlock with _ | j3
            · exact .inl rfl
            · right; intro e; exact h23 j3 e.symm hq3)
          have hr10 := rowsAt_grown (rowsAt_below hr9 hb99) hg10 a2
          have hsz10 : w9.heap.size + 1 ≤ w10.heap.size := by have := hg10.size; simpa using this
          have a210 : Apart v2' rb9 := apart_new a2 hat10 (fun p hp => by have := hlt9 p hp; simp; omega)
          have hK10 := (hK9.alloc (.cells #[.int .i64 0] 3)).grown hg10 (fun j e => .inr (l2 j e).1)
          have h2310 : ∀ j, v2'.ownBlock = some j → v3.ownBlock ≠ some j := fun j e h3 => by
            rcases hat10 with h | h
            · exact h23 j (h ▸ e) h3
            · rw [h] at e
              have := Option.some.inj e
              have := (l3 j h3).2
              simp at *; omega
          have l210 : ∀ j, v2'.ownBlock = some j → n1 ≤ j ∧ j < w10.heap.size := o210.lt
          have hE110 : w10.cell? ⟨q, 1, none⟩ = some (.int .i64 x.2) := (World.cell?_of_block (a := ⟨q, 1, none⟩) (hg10.block q (by simp; omega) (fun e => by have := (l2 q e.symm).2; omega))).trans (old2 hE19 hz9 hb99)
          have hbk10 := heap_alloc_new w10 (Obj.cells #[.int .i64 0] 3)
          have hz10 : q < w10.heap.size := by omega
          clear hr9 o19 o29 o39 a2 hat10 hg10 hE19 hK9 hb99 hbk9 h23
          go_upto_region 19 with (at_builtin; go_must (refine wpList_append_own_at _ rfl _ _ 43 rfl n1 3 i1 _ 1 8 Try.underlying43 hi1 hy0 hy1 hy2 rfl (by decide) _ _ _ rfl (o310.alloc _) ⟨_, 0, none⟩ 1 1 [.int .i64 0] rfl rfl (World.news_of_block hbk10) (by simp [Value.oneCell']) (by unfold maxLen; omega) (by omega) (by simp; omega) ?_; intro v3' w11 o311 hg11 _ hat11))
          have hb1010 : Below w10.heap.size w10 (w10.alloc (.cells #[.int .i64 0] 3)) := (Below.refl _ w10).alloc (Nat.le_refl _) _
          have o111 := (o110.alloc (.cells #[.int .i64 0] 3)).kept hg11 (own_ne o110 o310 (by decide))
          have o211 := (o210.alloc (.cells #[.int .i64 0] 3)).kept hg11 (by
            rcases hq2 : v2'.ownBlock with _ | j2
            · exact .inl rfl
            · right; intro e; exact h2310 j2 hq2 e.symm)
          have hr11 := rowsAt_grown (rowsAt_below hr10 hb1010) hg11 a3
          have hsz11 : w10.heap.size + 1 ≤ w11.heap.size := by have := hg11.size; simpa using this
          have a311 : Apart v3' rb9 := apart_new a3 hat11 (fun p hp => by have := hlt9 p hp; simp; omega)
          have hK11 := (hK10.alloc (.cells #[.int .i64 0] 3)).grown hg11 (fun j e => .inr (l3 j e).1)
          have h2311 : ∀ j, v2'.ownBlock = some j → v3'.ownBlock ≠ some j := fun j e h3 => by
            rcases hat11 with h | h
            · exact h2310 j e (h ▸ h3)
            · rw [h] at h3
              have := Option.some.inj h3
              have := (l210 j e).2
              simp at *; omega
          have hE111 : w11.cell? ⟨q, 1, none⟩ = some (.int .i64 x.2) := (World.cell?_of_block (a := ⟨q, 1, none⟩) (hg11.block q (by simp; omega) (fun e => by have := (l3 q e.symm).2; omega))).trans (old2 hE110 hz10 hb1010)
          have hs2 := Lib.hid (rep_snoc k (.int .i64 0))
          rw [hs2.out] at o211 o311
          have hsepN := Lib.hid (Sep.mk a1 h2311 a210 a311 hr11)
          clear o110 o210 o310 hr10 a1 a210 a3 a311 h2310 h2311 l210 hE110 hg11 hat11 hbk10 hK10 hb1010 hr11
          go_wp2
          go_roundw
          case rel => exact ⟨k + 1, rb9, v1', v2', v3', rfl, rfl, rfl, by omega, by go_num, by rw [hgs.out], hrl9, o111, o211, o311, hsepN, hK11⟩
          case measure => simp [intOf]; omega
        · have hkn : ys.length = k := by omega
          subst hkn
          rw [List.take_length] at *
          have hl1 := o1.lt
          have hl2 := o2.lt
          have hl3 := o3.lt
          have hs2 := hsep.out
          go_upto_region 22 with (at_make; refine wpList_make_full _ rfl _ _ 76 rfl wr.heap.size 4 i3 _ 1 Try.underlying76 hi3 hu0 hu1 .i64 .i64 _ _ M rfl rfl rfl rfl (by rw [hu2]; omega) (by unfold maxLen; omega) (Nat.le_refl _) ?_; intro w3 hownT hgT)
          have hbT : Below wr.heap.size wr w3 := (Below.refl _ wr).grown hgT (Nat.le_refl _) (fun k e => by cases e)
          have hK3 := hKp.below hbT
          have hszT : wr.heap.size < w3.heap.size := (hownT.lt _ rfl).2
          have hst : (madeCells (Value.bool false).cells (M * 1)).toList = List.replicate M (.bool false) := by
            rw [Nat.mul_one, show (Value.bool false).cells = #[Value.bool false] from rfl, toList_madeCells_one]
          rw [hst] at hownT
          have hn1r := hKp.size
          by_cases hy : ys = []
          · have hpl : plc K ys M = List.replicate M (-1) := by unfold plc; rw [if_pos hy]
            have hy0' : ys.length = 0 := by rw [hy]; rfl
            have hres := Lib.hid (show OwnStrs w3 g (.slice (some ⟨pb, 0, none⟩) M pc) ((plc K ys M).map (nameAt (ys.map Prod.fst))) from by
              unfold OwnStrs
              rw [hpl, List.length_map, List.length_replicate, List.map_map, List.map_replicate]
              have h1 := ownsRow_at hP1 (w' := w3) ((hK3.block pb hpb3 (fun h => h)))
              exact h1)
            have hbF : Below g w w3 := hK3.toBelow hbt1 (by omega) (fun _ _ h => h) (by have := hbt1.size; omega)
            have hy1 : ¬ (0 : Int) < (ys.length : Int) := by omega
            have hy2 : ¬ 0 < ys.length := by omega
            clear hpl hst hownT o1 o2 o3 hy hy0'
            go_wp2
            go_loopw [19] (fun gv wr => gv = .int .i64 0 ∧ wr = w3) (fun _ _ => 0)
            case atStart => exact ⟨rfl, rfl⟩
            case round =>
              obtain ⟨rfl, rfl⟩ := hrel
              go_wp2
              go_ret
              refine ⟨_, rfl, ?_, ?_⟩ <;> (try rw [hg])
              · rw [hys.out]; exact hres.out
              · exact hbF
          · have hny : 0 < ys.length := by cases hyy : ys with | nil => exact absurd hyy hy | cons y l => simp
            have hR := rows_of (K := K) hok' hy
            have hpl := Lib.hid (show plc K ys M = (resM M (greatest ys) (ys.map (rwOf K M)) (ms0 M ys.length)).P by unfold plc; rw [if_neg hy])
            have hI0 := ms0_inv hR
            have hrl0 : (ys.map (rwOf K M)).length = ys.length := List.length_map _
            rw [hrl0] at hI0
            obtain ⟨vb, vc, rfl, hvb1, hvb2⟩ := o1.form hny
            obtain ⟨nb, nc, rfl, hnb1, hnb2⟩ := o2.form hny
            obtain ⟨ob, oc, rfl, hob1, hob2⟩ := o3.form hny
            have hB : BlOk ⟨pb, wr.heap.size, nb, ob, vb, g, pc⟩ rb := by
              have hlt := rowsAt_lt hs2.rows (by rw [hrl.out]; omega)
              have e1 : nb ≠ ob := fun e => hs2.two nb rfl (by rw [← e]; rfl)
              have e2 : nb ≠ vb := fun e => by rcases own_ne o2 o1 (by decide) with h | h; cases h; exact h (by rw [← e]; rfl)
              have e3 : ob ≠ vb := fun e => by rcases own_ne o3 o1 (by decide) with h | h; cases h; exact h (by rw [← e]; rfl)
              refine ⟨?_, ?_, ?_, ?_, ?_, ?_, ?_, e1, e2, e3, fun p hp => ⟨?_, ?_, ?_, ?_⟩⟩
              · show pb ≠ wr.heap.size; omega
              · show pb ≠ nb; omega
              · show pb ≠ ob; omega
              · show pb ≠ vb; omega
              · show wr.heap.size ≠ nb; omega
              · show wr.heap.size ≠ ob; omega
              · show wr.heap.size ≠ vb; omega
              · have := hlt p hp; show p.1 ≠ pb; omega
              · have := hlt p hp; show p.1 ≠ wr.heap.size; omega
              · exact fun e => hs2.ap2 p hp (by rw [e]; rfl)
              · exact fun e => hs2.ap3 p hp (by rw [e]; rfl)
            have hM0 : RS w3 ⟨pb, wr.heap.size, nb, ob, vb, g, pc⟩ M K ys rb n1 (ms0 M ys.length).P ((ms0 M ys.length).P.map (fun p => decide (p ≠ -1))) (ms0 M ys.length).K (ms0 M ys.length).O := by
              have hPP : ∀ j p, (ms0 M ys.length).P[j]? = some p → j < M ∧ p = -1 := fun j p hj => by
                have h : (List.replicate M (-1 : Int))[j]? = some p := hj
                rw [List.getElem?_replicate] at h
                split at h
                · cases h; exact ⟨by assumption, rfl⟩
                · cases h
              refine ⟨by show pb < _; omega, hszT, by show nb < _; omega, by show ob < _; omega, by show vb < _; omega, fun j p hj => ?_, fun j b hj => ?_, fun i k hk => ?_, fun i x hx => ?_, fun i p hp => ?_, fun j => ?_, fun j => hownT.frozenAt j, fun j => ?_, fun j => ?_, rowsAt_below hs2.rows hbT, ?_⟩
              · obtain ⟨h1, rfl⟩ := hPP j p hj
                exact (hK3.cell hpb3 (fun h => h) (hPc j h1)).trans rfl
              · rw [List.getElem?_map] at hj
                cases hq : (ms0 M ys.length).P[j]? with
                | none => rw [hq] at hj; cases hj
                | some p =>
                  obtain ⟨h1, rfl⟩ := hPP j p hq
                  rw [hq] at hj
                  cases hj
                  show w3.cell? ⟨wr.heap.size, j, none⟩ = _
                  rw [hownT.cellAt j (by omega), List.getElem?_replicate, if_pos h1]; rfl
              · have h : (List.replicate ys.length 0)[i]? = some k := hk
                rw [List.getElem?_replicate] at h
                split at h
                · rename_i hi'
                  cases h
                  refine old2 (?_ : wr.cell? ⟨nb, i, none⟩ = _) hnb2 hbT
                  rw [o2.cellAt i (by omega), List.getElem?_replicate, if_pos hi']; rfl
                · cases h
              · have h : (List.replicate ys.length (0 : Int))[i]? = some x := hx
                rw [List.getElem?_replicate] at h
                split at h
                · rename_i hi'
                  cases h
                  refine old2 (?_ : wr.cell? ⟨ob, i, none⟩ = _) hob2 hbT
                  rw [o3.cellAt i (by omega), List.getElem?_replicate, if_pos hi']
                · cases h
              · have hi' := (List.getElem?_eq_some_iff.1 hp).1
                rw [hrl.out] at hi'
                refine old2 (?_ : wr.cell? ⟨vb, i, none⟩ = _) hvb2 hbT
                rw [o1.cellAt i (by omega), List.getElem?_map, hp]; rfl
              · show w3.frozen? ⟨pb, j, none⟩ = false
                rw [World.frozen?_of_block (w := w1) (a := ⟨pb, j, none⟩) (hK3.block pb hpb3 (fun h => h))]; exact hPf j
              · exact (hbT.frozen (p := ⟨nb, j, none⟩) hnb2).trans (o2.frozenAt j)
              · exact (hbT.frozen (p := ⟨ob, j, none⟩) hob2).trans (o3.frozenAt j)
              · have h1 := ownsRow_at hP1 (w' := w3) (hK3.block pb hpb3 (fun h => h))
                show w3.ownsRow g _ 1 _ M ((List.replicate M (-1 : Int)).map _)
                rw [List.map_replicate]
                exact h1
            have hg1 : 1 ≤ greatest ys := by obtain ⟨r, hr, e⟩ := hR.top; have := hR.wt r hr; omega
            have hg2 : greatest ys ≤ 65535 := hrngs.2.1
            have hKm : Kp n1 (fun k => k = pb) w1 w3 := ⟨hK3.os, hK3.tape, hK3.output, hK3.size, fun k hk _ => hK3.block k hk (fun h => h)⟩
            generalize hgre : greatest ys = gr at *
            have hgre' := Lib.hid hgre
            clear hgre hst hownT o1 o2 o3 hK3 hPc hPf hP1 hsep hs2 hl1 hl2 hl3 hbT hgT
            have hny2 : (0 : Int) < (ys.length : Int) := by omega
            generalize htk : wr.heap.size = tk at *
            go_wp2
            go_loopw [19] (fun gv wr => ∃ st : MS, gv = .int .i64 (st.G : Int) ∧ Hid (resM M gr (ys.map (rwOf K M)) st = resM M gr (ys.map (rwOf K M)) (ms0 M ys.length)) ∧ Hid (InvJ M gr (ys.map (rwOf K M)) 0 st ∨ (st.G = M ∧ InvJ M gr (ys.map (rwOf K M)) ys.length st)) ∧ Hid (RS wr ⟨pb, tk, nb, ob, vb, g, pc⟩ M K ys rb n1 st.P (st.P.map (fun p => decide (p ≠ -1))) st.K st.O) ∧ Kp n1 (fun k => k = pb) w1 wr) (fun gv _ => M - (intOf gv).toNat)
            case atStart => exact ⟨ms0 M ys.length, rfl, Lib.hid rfl, Lib.hid (.inl hI0), Lib.hid hM0, hKm⟩
            case round =>
              obtain ⟨st, rfl, hres, hinv, hms, hkp⟩ := hrel
              clear hI0 hM0 hKm
              have hGle : st.G ≤ M := by rcases hinv.out with h | h; exact h.gle; omega
              by_cases c1 : st.G < M
              · have hI : Hid (InvJ M gr (ys.map (rwOf K M)) 0 st) := Lib.hid (by rcases hinv.out with h | h; exact h; omega)
                have hrl' := Lib.hid hrl0
                clear hrl0 hinv
                go_wp2
                go_loopw [19, 88] (fun gv iv wr => ∃ (s' : MS) (i : Nat), i ≤ ys.length ∧ iv = .int .i64 i ∧ gv = .int .i64 (s'.G : Int) ∧ Hid (InvJ M gr (ys.map (rwOf K M)) i s') ∧ Hid (passFrom M gr ((ys.map (rwOf K M)).drop i) i s' = passFrom M gr (ys.map (rwOf K M)) 0 st) ∧ Hid (RS wr ⟨pb, tk, nb, ob, vb, g, pc⟩ M K ys rb n1 s'.P (s'.P.map (fun p => decide (p ≠ -1))) s'.K s'.O) ∧ Kp n1 (fun k => k = pb) w1 wr) (fun _ iv _ => ys.length - (intOf iv).toNat)
                case atStart => exact ⟨st, 0, Nat.zero_le _, rfl, rfl, hI, Lib.hid rfl, hms, hkp⟩
                case round =>
                  obtain ⟨s', i, hil, rfl, rfl, hI', hpass, hms', hkp'⟩ := hrel
                  clear hms hkp
                  by_cases c2 : i < ys.length
                  · obtain ⟨b2, o2, rfl, hb2l, hxF⟩ := hrS (by omega)
                    obtain ⟨e1, e2⟩ := hxF i ys[i] (List.getElem?_eq_getElem c2)
                    have hb2p : ¬ b2 = pb := fun e => by have := hSb b2 rfl; omega
                    have hc0 := hkp'.cell (by omega) hb2p e1
                    have hc1 := hkp'.cell (by omega) hb2p e2
                    have hyi : Hid (ys[i]? = some ys[i]) := Lib.hid (List.getElem?_eq_getElem c2)
                    have hri : Hid ((ys.map (rwOf K M))[i]? = some (rwOf K M ys[i])) := Lib.hid (by rw [List.getElem?_map, List.getElem?_eq_getElem c2]; rfl)
                    have hnmi : Hid (nameAt (ys.map Prod.fst) (i : Int) = ys[i].1) := Lib.hid (by
                      unfold nameAt
                      rw [if_neg (by omega), Int.toNat_natCast, List.getD_eq_getElem?_getD, List.getElem?_map, List.getElem?_eq_getElem c2]; rfl)
                    have hxw : Hid ((rwOf K M ys[i]).w = ys[i].2) := Lib.hid rfl
                    generalize ys[i] = x at *
                    clear e1 e2 hxF
                    have hir : i < (ys.map (rwOf K M)).length := by rw [hrl'.out]; exact c2
                    have hib : i < rb.length := by rw [hrl.out]; exact c2
                    obtain ⟨rp, hrp⟩ : ∃ rp, Hid (rb[i]? = some rp) := ⟨_, Lib.hid (List.getElem?_eq_getElem hib)⟩
                    have ho := hI'.out.onn i hir
                    have hol := hI'.out.olt i hir (Nat.le_refl _)
                    have hw := hR.wt _ (List.mem_of_getElem? hri.out)
                    rw [hxw.out] at hw
                    have hstp := Lib.hid (stepM_inv hR hI'.out hri.out)
                    have hsdef : Hid (stepM M gr i (rwOf K M x) s' = if s'.O.getD i 0 + x.2 < gr ∨ s'.G = M then { s' with O := s'.O.set i (s'.O.getD i 0 + x.2) } else { P := s'.P.set (pos M (rwOf K M x) (seekK M s'.P (rwOf K M x) (s'.K.getD i 0))) (i : Int), K := s'.K.set i (seekK M s'.P (rwOf K M x) (s'.K.getD i 0)), O := s'.O.set i (s'.O.getD i 0 + x.2 - gr), G := s'.G + 1 }) := Lib.hid rfl
                    have hnp : Hid (passFrom M gr ((ys.map (rwOf K M)).drop (i + 1)) (i + 1) (stepM M gr i (rwOf K M x) s') = passFrom M gr (ys.map (rwOf K M)) 0 st) := Lib.hid (by
                      rw [← hpass.out, List.drop_eq_getElem_cons hir]
                      have e : (ys.map (rwOf K M))[i] = rwOf K M x := by have := hri.out; rw [List.getElem?_eq_getElem hir] at this; exact Option.some.inj this
                      rw [e]; rfl)
                    have hGle' := hI'.out.gle
                    have hOi : s'.O[i]? = some (s'.O.getD i 0) := by rw [List.getD_eq_getElem?_getD, List.getElem?_eq_getElem (by rw [hI'.out.lenO]; exact hir)]; rfl
                    have hKi : s'.K[i]? = some (s'.K.getD i 0) := by rw [List.getD_eq_getElem?_getD, List.getElem?_eq_getElem (by rw [hI'.out.lenK]; exact hir)]; rfl
                    have hiO : Hid (i < s'.O.length) := Lib.hid (by rw [hI'.out.lenO]; exact hir)
                    generalize hoi : s'.O.getD i 0 = ow at *
                    have hoi' := Lib.hid hoi
                    clear hoi
                    go_upto_region 27 with (fail)
                    have hE := new_two wr (.string (mk x.1)) (.int .i64 x.2) 42
                    obtain ⟨hE0, hE1⟩ := hE
                    have hmE := Lib.hid (hms'.out.below ((Below.refl _ wr).alloc (Nat.le_refl _) (.cells #[.string (mk x.1), .int .i64 x.2] 42)))
                    have hkE := hkp'.alloc (.cells #[.string (mk x.1), .int .i64 x.2] 42)
                    have hzE : wr.heap.size < (wr.alloc (.cells #[.string (mk x.1), .int .i64 x.2] 42)).heap.size := by simp
                    have hqob : ob < wr.heap.size := hms'.out.lto
                    have hqnb : nb < wr.heap.size := hms'.out.ltn
                    have hqtk : tk < wr.heap.size := hms'.out.ltt
                    have hqpb : pb < wr.heap.size := hms'.out.ltp
                    generalize wr.alloc (.cells #[.string (mk x.1), .int .i64 x.2] 42) = wE at *
                    generalize wr.heap.size = q at *
                    clear hc0 hc1 hkp' hms'
                    have hco := hmE.out.co i ow hOi
                    have hfo := hmE.out.fo i
                    have x1 : IntKind.i64.wrap (ow + x.2) = ow + x.2 := IntWalk.i64_in _ (by omega)
                    have z1 : (0 : Int) ≤ (i : Int) := by omega
                    have z2 : (i : Int) < (ys.length : Int) := by omega
                    go_still_tail 8, (by kernel_rfl)
                    go_upto_region 28 with (fail)
                    have hmA := Lib.hid (((hmE.out.owe hB i (ow + x.2))).drew)
                    have hkA := ((hkE.set ob i (.int .i64 (ow + x.2)) (.inr (by omega))).drew)
                    have hA0 : (wE.setCell ⟨ob, i, none⟩ (.int .i64 (ow + x.2))).drew.cell? ⟨q, 0, none⟩ = some (.string (mk x.1)) := (cell_far (w := wE) (b := ob) (c := q) (i := i) (j := 0) (.int .i64 (ow + x.2)) (by omega)).trans hE0
                    have hA1 : (wE.setCell ⟨ob, i, none⟩ (.int .i64 (ow + x.2))).drew.cell? ⟨q, 1, none⟩ = some (.int .i64 x.2) := (cell_far (w := wE) (b := ob) (c := q) (i := i) (j := 1) (.int .i64 (ow + x.2)) (by omega)).trans hE1
                    have hzA : q < (wE.setCell ⟨ob, i, none⟩ (.int .i64 (ow + x.2))).drew.heap.size := by show q < (wE.setCell _ _).heap.size; rw [sz_set]; exact hzE
                    replace hmA : Hid (RS (wE.setCell ⟨ob, i, none⟩ (.int .i64 (ow + x.2))).drew ⟨pb, tk, nb, ob, vb, g, pc⟩ M K ys rb n1 s'.P (s'.P.map (fun p => decide (p ≠ -1))) s'.K (s'.O.set i (ow + x.2))) := hmA
                    generalize (wE.setCell ⟨ob, i, none⟩ (.int .i64 (ow + x.2))).drew = wA at *
                    clear hmE hkE hco hfo hE0 hE1 hzE
                    have hOi2 : (s'.O.set i (ow + x.2))[i]? = some (ow + x.2) := by rw [List.getElem?_set, if_pos rfl, if_pos hiO.out]
                    have hcA := hmA.out.co i _ hOi2
                    have hfA := hmA.out.fo i
                    replace hOi2 := Lib.hid hOi2
                    replace hOi := Lib.hid hOi
                    replace hKi := Lib.hid hKi
                    by_cases c3 : ow + x.2 < gr
                    · have hst : Hid (stepM M gr i (rwOf K M x) s' = { s' with O := s'.O.set i (ow + x.2) }) := Lib.hid (by rw [hsdef.out, if_pos (Or.inl c3)])
                      go_wp2
                      go_roundw
                      case rel => exact ⟨{ s' with O := s'.O.set i (ow + x.2) }, i + 1, by omega, by go_num, rfl, Lib.hid (hst.out ▸ hstp.out), Lib.hid (hst.out ▸ hnp.out), hmA, hkA⟩
                      case measure => simp [intOf]; omega
                    · by_cases c4 : s'.G = M
                      · have hst : Hid (stepM M gr i (rwOf K M x) s' = { s' with O := s'.O.set i (ow + x.2) }) := Lib.hid (by rw [hsdef.out, if_pos (Or.inr c4)])
                        have c4' : (s'.G : Int) = (M : Int) := by omega
                        go_wp2
                        go_roundw
                        case rel => exact ⟨{ s' with O := s'.O.set i (ow + x.2) }, i + 1, by omega, by go_num, rfl, Lib.hid (hst.out ▸ hstp.out), Lib.hid (hst.out ▸ hnp.out), hmA, hkA⟩
                        case measure => simp [intOf]; omega
                      · have hst : Hid (stepM M gr i (rwOf K M x) s' = { P := s'.P.set (pos M (rwOf K M x) (seekK M s'.P (rwOf K M x) (s'.K.getD i 0))) (i : Int), K := s'.K.set i (seekK M s'.P (rwOf K M x) (s'.K.getD i 0)), O := s'.O.set i (ow + x.2 - gr), G := s'.G + 1 }) := Lib.hid (by rw [hsdef.out, if_neg (fun h => h.elim c3 c4)])
                        have c4' : ¬ (s'.G : Int) = (M : Int) := by omega
                        have x2 : IntKind.i64.wrap (ow + x.2 - gr) = ow + x.2 - gr := IntWalk.i64_in _ (by omega)
                        have x3 : IntKind.i64.wrap ((s'.G : Int) + 1) = (s'.G : Int) + 1 := IntWalk.i64_in _ (by omega)
                        obtain ⟨kf, hkf, hkle, hfree⟩ := ahead_free hR hI'.out hri.out (by omega)
                        obtain ⟨a1, a2, a3, a4⟩ := seekK_spec (M - s'.K.getD i 0) (s'.K.getD i 0) ⟨kf, hkf, hkle, by omega, hfree⟩
                        have hlP := hI'.out.lenP
                        have hlK : Hid (i < s'.K.length) := Lib.hid (by rw [hI'.out.lenK]; exact hir)
                        generalize seekK M s'.P (rwOf K M x) (s'.K.getD i 0) = k1 at *
                        generalize hk0 : s'.K.getD i 0 = k0 at *
                        have hk0' := Lib.hid hk0
                        clear hk0
                        have hmB := Lib.hid (show RS (wA.setCell ⟨ob, i, none⟩ (.int .i64 (ow + x.2 - gr))) ⟨pb, tk, nb, ob, vb, g, pc⟩ M K ys rb n1 s'.P (s'.P.map (fun p => decide (p ≠ -1))) s'.K (s'.O.set i (ow + x.2 - gr)) from by
                          have h := hmA.out.owe hB i (ow + x.2 - gr)
                          rw [List.set_set] at h
                          exact h)
                        have hkB := hkA.set ob i (.int .i64 (ow + x.2 - gr)) (.inr (by omega))
                        have hB0 := (cell_far (w := wA) (b := ob) (c := q) (i := i) (j := 0) (.int .i64 (ow + x.2 - gr)) (by omega)).trans hA0
                        have hzB : q < (wA.setCell ⟨ob, i, none⟩ (.int .i64 (ow + x.2 - gr))).heap.size := by rw [sz_set]; exact hzA
                        clear hsdef hfree hkle hkf hI' hpass
                        go_wp2
                        generalize wA.setCell ⟨ob, i, none⟩ (.int .i64 (ow + x.2 - gr)) = wB at *
                        clear hmA hkA hA0 hA1 hcA hfA hzA
                        have hmB0 : Hid (RS wB ⟨pb, tk, nb, ob, vb, g, pc⟩ M K ys rb n1 s'.P (s'.P.map (fun p => decide (p ≠ -1))) (s'.K.set i k0) (s'.O.set i (ow + x.2 - gr))) := Lib.hid (by rw [set_self hKi.out]; exact hmB.out)
                        go_loopg [] (k1 - k0) (fun gk wr => ∃ k, k0 ≤ k ∧ k ≤ k1 ∧ gk = k1 - k ∧ Hid (RS wr ⟨pb, tk, nb, ob, vb, g, pc⟩ M K ys rb n1 s'.P (s'.P.map (fun p => decide (p ≠ -1))) (s'.K.set i k) (s'.O.set i (ow + x.2 - gr))) ∧ Kp n1 (fun k => k = pb) w1 wr ∧ Hid (wr.cell? ⟨q, 0, none⟩ = some (.string (mk x.1))) ∧ q < wr.heap.size)
                        case atStart => exact ⟨k0, Nat.le_refl _, a1, rfl, hmB0, hkB, Lib.hid hB0, hzB⟩
                        case round =>
                          clear hmB hmB0 hkB hB0 hzB
                          obtain ⟨k, hkk0, hkk1, hgk, hmC, hkC, hC0, hzC⟩ := hrel
                          have hpm : pos M (rwOf K M x) k < M := Nat.mod_lt _ (by omega)
                          obtain ⟨y, hPy⟩ : ∃ y, Hid (s'.P[pos M (rwOf K M x) k]? = some y) := ⟨_, Lib.hid (List.getElem?_eq_getElem (by omega))⟩
                          have hgk' := Lib.hid hgk
                          have kcv : wr.cell? ⟨vb, i, none⟩ = some (.slice (some ⟨rp.1, 0, none⟩) M rp.2) := hmC.out.cv i rp hrp.out
                          have kcn : wr.cell? ⟨nb, i, none⟩ = some (.int .i64 (k : Nat)) := hmC.out.cn i k (by rw [List.getElem?_set, if_pos rfl, if_pos hlK.out])
                          have kfn : wr.frozen? ⟨nb, i, none⟩ = false := hmC.out.fn i
                          have krw : wr.cell? ⟨rp.1, k, none⟩ = some (.int .i64 (pos M (rwOf K M x) k : Nat)) := (hmC.out.rows i rp x hrp.out hyi.out).2.2 k (by omega)
                          have kct : wr.cell? ⟨tk, pos M (rwOf K M x) k, none⟩ = some (.bool (decide (y ≠ -1))) := hmC.out.ct _ _ (by rw [List.getElem?_map, hPy.out]; rfl)
                          have y1 : (0 : Int) ≤ (k : Int) := by omega
                          have y2 : (k : Int) < (M : Int) := by omega
                          have hpp : Hid (pos M (rwOf K M x) k = pos M (rwOf K M x) k) := Lib.hid rfl
                          generalize hpk : pos M (rwOf K M x) k = pk at *
                          have hpk' := Lib.hid hpk
                          have y3 : (0 : Int) ≤ (pk : Int) := by omega
                          have y4 : (pk : Int) < (M : Int) := by omega
                          clear hpk hpp hgk
                          by_cases c7 : y = -1
                          · have hkq : k = k1 := by
                              rcases Nat.lt_or_ge k k1 with h | h
                              · exact absurd (by rw [hpk'.out, hPy.out, c7]) (a4 k hkk0 h)
                              · omega
                            rw [show decide (y ≠ -1) = false by rw [c7]; rfl] at kct
                            replace hkq := Lib.hid hkq
                            clear a3 a4 hgk' c7
                            go_wp2
                            go_quiet (fail)
                            have hmD := Lib.hid (rs_drawn hmC.out nq)
                            have hkD := kp_drawn hkC nq
                            have hD0 : (wr.drewN nq).cell? ⟨q, 0, none⟩ = some (.string (mk x.1)) := hC0.out
                            have hzD : q < (wr.drewN nq).heap.size := hzC
                            generalize wr.drewN nq = wD at *
                            clear hmC hkC hC0 hzC kcv kcn kfn krw kct
                            go_upto_region 32 with (fail)
                            have dcv : wD.cell? ⟨vb, i, none⟩ = some (.slice (some ⟨rp.1, 0, none⟩) M rp.2) := hmD.out.cv i rp hrp.out
                            have dcn : wD.cell? ⟨nb, i, none⟩ = some (.int .i64 (k : Nat)) := hmD.out.cn i k (by rw [List.getElem?_set, if_pos rfl, if_pos hlK.out])
                            have drw : wD.cell? ⟨rp.1, k, none⟩ = some (.int .i64 (pk : Nat)) := by rw [← hpk'.out]; exact (hmD.out.rows i rp x hrp.out hyi.out).2.2 k (by omega)
                            have dct : wD.cell? ⟨tk, pk, none⟩ = some (.bool (decide (y ≠ -1))) := hmD.out.ct _ _ (by rw [List.getElem?_map, hPy.out]; rfl)
                            have dft := hmD.out.ft pk
                            go_still_tail 12, (by kernel_rfl)
                            go_upto_region 33 with (fail)
                            have hmF : Hid (RS (wD.setCell ⟨tk, pk, none⟩ (.bool true)).drew ⟨pb, tk, nb, ob, vb, g, pc⟩ M K ys rb n1 s'.P ((s'.P.map (fun p => decide (p ≠ -1))).set pk true) (s'.K.set i k) (s'.O.set i (ow + x.2 - gr))) := Lib.hid (RS.drew (RS.tkn hB hmD.out pk true))
                            have hkF := (hkD.set tk pk (.bool true) (.inr (by omega))).drew
                            have hF0 : (wD.setCell ⟨tk, pk, none⟩ (.bool true)).drew.cell? ⟨q, 0, none⟩ = some (.string (mk x.1)) := (cell_far (w := wD) (b := tk) (c := q) (i := pk) (j := 0) (.bool true) (by omega)).trans hD0
                            generalize (wD.setCell ⟨tk, pk, none⟩ (.bool true)).drew = wF at *
                            clear hmD hkD hD0 hzD dcv dcn drw dct dft
                            have fcv : wF.cell? ⟨vb, i, none⟩ = some (.slice (some ⟨rp.1, 0, none⟩) M rp.2) := hmF.out.cv i rp hrp.out
                            have fcn : wF.cell? ⟨nb, i, none⟩ = some (.int .i64 (k : Nat)) := hmF.out.cn i k (by rw [List.getElem?_set, if_pos rfl, if_pos hlK.out])
                            have frw : wF.cell? ⟨rp.1, k, none⟩ = some (.int .i64 (pk : Nat)) := by rw [← hpk'.out]; exact (hmF.out.rows i rp x hrp.out hyi.out).2.2 k (by omega)
                            have fcp : ∃ u, wF.cell? ⟨pb, pk, none⟩ = some (.string u) := ⟨_, hmF.out.cp pk y hPy.out⟩
                            obtain ⟨u0, fcp⟩ := fcp
                            have ffp := hmF.out.fp pk
                            go_still_tail 14, (by kernel_rfl)
                            go_upto_region 34 with (fail)
                            have hTs : (s'.P.map (fun p => decide (p ≠ -1))).set pk true = (s'.P.set pk (i : Int)).map (fun p => decide (p ≠ -1)) := by
                              rw [List.map_set, show decide ((i : Int) ≠ -1) = true from decide_eq_true (by omega)]
                            have hmG : Hid (RS (wF.setCell ⟨pb, pk, none⟩ (.string (mk x.1))).drew ⟨pb, tk, nb, ob, vb, g, pc⟩ M K ys rb n1 (s'.P.set pk (i : Int)) ((s'.P.set pk (i : Int)).map (fun p => decide (p ≠ -1))) (s'.K.set i k) (s'.O.set i (ow + x.2 - gr))) := Lib.hid (by
                              have h := RS.drew (rs_plc hB hmF.out pk (i : Int))
                              rw [hnmi.out, hTs] at h
                              exact h)
                            have hkG := (hkF.set pb pk (.string (mk x.1)) (.inl rfl)).drew
                            replace hTs := Lib.hid hTs
                            generalize (wF.setCell ⟨pb, pk, none⟩ (.string (mk x.1))).drew = wG at *
                            clear hmF hkF hF0 fcv fcn frw fcp ffp
                            have hfin : stepM M gr i (rwOf K M x) s' = { P := s'.P.set pk (i : Int), K := s'.K.set i k, O := s'.O.set i (ow + x.2 - gr), G := s'.G + 1 } := by rw [hst.out, ← hkq.out, hpk'.out]
                            replace hfin := Lib.hid hfin
                            go_wp2
                            go_roundw
                            case rel => exact ⟨{ P := s'.P.set pk (i : Int), K := s'.K.set i k, O := s'.O.set i (ow + x.2 - gr), G := s'.G + 1 }, i + 1, by omega, by go_num, by show _ = Value.int .i64 (((s'.G + 1 : Nat)) : Int); go_num, Lib.hid (hfin.out ▸ hstp.out), Lib.hid (hfin.out ▸ hnp.out), hmG, hkG⟩
                            case measure => simp [intOf]; omega
                          · have hkq : k < k1 := by
                              rcases Nat.lt_or_ge k k1 with h | h
                              · exact h
                              · have : k = k1 := by omega
                                subst this
                                rw [hpk'.out, hPy.out] at a3
                                exact absurd (Option.some.inj a3) c7
                            rw [show decide (y ≠ -1) = true from decide_eq_true c7] at kct
                            have y5 : IntKind.i64.wrap ((k : Int) + 1) = ((k + 1 : Nat) : Int) := IntWalk.i64_in _ (by omega)
                            clear a3 a4
                            go_wp2
                            go_quiet (fail)
                            go_wp2
                            go_roundg (k1 - (k + 1))
                            case measure => have := hgk'.out; omega
                            case rel =>
                              refine ⟨k + 1, by omega, by omega, rfl, Lib.hid ?_, (kp_drawn hkC nq).set nb i _ (.inr (by omega)), Lib.hid ?_, ?_⟩
                              · have h := RS.nxt hB (rs_drawn hmC.out nq) i (k + 1)
                                rw [List.set_set] at h
                                first | exact h | (rw [y5]; exact h)
                              · exact (cell_far (w := wr.drewN nq) (b := nb) (c := q) (i := i) (j := 0) _ (by omega)).trans hC0.out
                              · show q < (World.setCell _ _ _).heap.size; rw [sz_set]; exact hzC
                  · have hin : i = ys.length := by omega
                    have hps : Hid (passFrom M gr (ys.map (rwOf K M)) 0 st = s') := Lib.hid (by
                      rw [← hpass.out, List.drop_of_length_le (by rw [hrl'.out]; omega)]; rfl)
                    have hG' := Lib.hid (pass_G hR hI.out c1)
                    have hrp := Lib.hid (resM_pass hR hI.out c1)
                    have hIe : Hid (InvJ M gr (ys.map (rwOf K M)) ys.length s') := Lib.hid (by have := hI'.out; rw [hin] at this; exact this)
                    have hgl := hI'.out.gle
                    clear hI' hpass
                    go_wp2
                    go_roundw
                    case rel =>
                      refine ⟨s', rfl, Lib.hid ?_, Lib.hid ?_, hms', hkp'⟩
                      · rw [← hps.out, ← hrp.out]; exact hres.out
                      · by_cases hx : s'.G < M
                        · exact .inl (InvJ.start (by rw [hrl'.out]; exact hIe.out) hx)
                        · exact .inr ⟨by omega, hIe.out⟩
                    case measure => have := hG'.out; rw [hps.out] at this; simp [intOf]; omega
              · have hGM : st.G = M := by omega
                have hlP : st.P.length = M := by rcases hinv.out with h | h; exact h.lenP; exact h.2.lenP
                have hfin := Lib.hid (show plc K ys M = st.P by rw [hpl.out, ← hres.out, resM_end hGM])
                have hBe : Below g w wr := hkp.toBelow hbt1 (by omega) (fun k hk h => by omega) (by have := hkp.size; have := hbt1.size; omega)
                have hOut : Hid (OwnStrs wr g (.slice (some ⟨pb, 0, none⟩) M pc) ((plc K ys M).map (nameAt (ys.map Prod.fst)))) := Lib.hid (by
                  unfold OwnStrs
                  rw [hfin.out, List.length_map, List.map_map, hlP]
                  exact hms.out.op)
                have hgM' : (st.G : Int) = (M : Int) := by omega
                clear hinv hms hkp hres
                go_wp2
                go_ret
                refine ⟨_, rfl, ?_, ?_⟩ <;> (try rw [hg])
                · rw [hys.out]; exact hOut.out
                · exact hBe
end Go.Proofs.Ytclngmjfhlindaa.Ma
