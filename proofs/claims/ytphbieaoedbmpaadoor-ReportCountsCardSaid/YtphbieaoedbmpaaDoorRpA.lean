/- Strings, rows, blocks in memory (printed by genO.py). -/
import Derived.Test.YtphbieaoedbmpaaDoorRpO
import Derived.RegionTactic
import Derived.ChangeAlike
import Derived.Laws.Rows
import Derived.OpenShut
import Derived.Deep.RegionHeld
import Derived.StillTailTactics
import Derived.Lib.AppendStr
import Derived.Deep.RegionHeld3
import Derived.Deep.AppendLies
import Derived.Maps.OwnSet
import Derived.StringKeys
import Derived.Deep.DrawnRows
import Derived.IntWalk
import Derived.Deep.RegionLaw
namespace Go.Proofs.YtphbieaoedbmpaaDoor.Rp
open Go.RowKit Go.Maps Go.Sort Go.Shelf Go.Proofs.YtphbieaoedbmpaaDoor.Oct
set_option linter.unusedVariables false
def mk (l : List UInt8) : ByteArray := ⟨l.toArray⟩
theorem mk_size (l : List UInt8) : (mk l).size = l.length := by simp [mk, ByteArray.size]
theorem mk_data (s : ByteArray) : mk s.data.toList = s := by cases s; rfl
/-- A slice value reads as these texts. -/
def Strs (w : World) (v : Value) (xs : List (List UInt8)) : Prop :=
  ∃ A c, v = .slice A xs.length c ∧ xs.length ≤ c ∧ (0 < xs.length → ∃ b o, A = some ⟨b, o, none⟩ ∧ b < w.heap.size ∧ ∀ j x, xs[j]? = some x → w.cell? ⟨b, o + j, none⟩ = some (.string (mk x)))
abbrev Ent := List UInt8 × Int
theorem mk_inj {a b : List UInt8} (h : mk a = mk b) : a = b := by
  have := congrArg (fun s : ByteArray => s.data.toList) h
  exact this
theorem str_eq (a b : ByteArray) : (a.toList == b.toList) = decide (a = b) := by
  rw [Lib.toList_data, Lib.toList_data, Bool.eq_iff_iff, beq_iff_eq, decide_eq_true_iff]
  exact ⟨Go.WideShapes.bytes_inj, fun h => by rw [h]⟩
theorem mk_eq (a b : List UInt8) : ((mk a).toList == (mk b).toList) = decide (a = b) := by
  rw [str_eq]
  by_cases h : a = b
  · rw [h]; simp
  · rw [decide_eq_false h, decide_eq_false (fun e => h (mk_inj e))]
theorem new_two (w : World) (a b : Value) (T : TypeId) : (w.alloc (.cells #[a, b] T)).cell? ⟨w.heap.size, 0, none⟩ = some a ∧ (w.alloc (.cells #[a, b] T)).cell? ⟨w.heap.size, 1, none⟩ = some b :=
  ⟨(cell_of_row _ w.heap.size 0 #[a, b] T (0, 0) (heap_alloc_new w _)).trans rfl, (cell_of_row _ w.heap.size 1 #[a, b] T (0, 0) (heap_alloc_new w _)).trans rfl⟩
theorem bytesLess_lt : ∀ (x y : List UInt8), Op.bytesLess x y = decide (x < y)
  | [], [] => by simp [Op.bytesLess]
  | _ :: _, [] => by simp [Op.bytesLess]
  | [], _ :: _ => by simp [Op.bytesLess]
  | a :: x, b :: y => by
    rw [Op.bytesLess, bytesLess_lt x y]
    simp only [List.cons_lt_cons_iff]
    by_cases h1 : a < b <;> by_cases h2 : a = b <;> by_cases h3 : x < y <;> simp [h1, h2, h3]
theorem mk_lt (a b : List UInt8) : Op.bytesLess (mk a).toList (mk b).toList = decide (a < b) := by
  rw [bytesLess_lt, Lib.toList_data, Lib.toList_data]; rfl
theorem old2 {w w' : World} {b o : Nat} {v : Value} (h : w.cell? ⟨b, o, none⟩ = some v) (hb : b < w.heap.size) (hB : Below w.heap.size w w') : w'.cell? ⟨b, o, none⟩ = some v := (hB.cell (p := ⟨b, o, none⟩) hb).trans h
theorem oldA {w : World} {b o : Nat} {v : Value} (h : w.cell? ⟨b, o, none⟩ = some v) (hb : b < w.heap.size) (ob : Obj) : (w.alloc ob).cell? ⟨b, o, none⟩ = some v := (((Below.refl w.heap.size w).alloc (Nat.le_refl _) ob).cell (p := ⟨b, o, none⟩) hb).trans h
theorem row_strs {w : World} {base : Nat} {nv : Value} {names : List (List UInt8)} (h : w.ownsRow base 9 1 nv names.length (names.map (fun x => Value.string (mk x)))) : Strs w nv names := by
  have h' := h
  rcases h.2 with ⟨rfl, h0⟩ | ⟨g, cap, cur, rfl, hb, hg, h1, h2, h3, h4⟩
  · exact ⟨none, 0, by rw [h0], by omega, fun hp => by omega⟩
  · refine ⟨_, cap, rfl, h1, fun _ => ⟨g, 0, rfl, (Array.getElem?_eq_some_iff.1 hg).1, fun j x hj => ?_⟩⟩
    have hj2 : j < names.length := (List.getElem?_eq_some_iff.1 hj).1
    rw [Nat.zero_add, h'.cellAt j (by omega), List.getElem?_map, hj]; rfl
/-- Strings, in a row of the call's own. -/
def OwnStrs (w : World) (base : Nat) (v : Value) (xs : List (List UInt8)) : Prop := w.ownsRow base 9 1 v xs.length (xs.map (fun x => Value.string (mk x)))
theorem ret_bool {b c : Bool} (h : b = c) : Ending.returned (.bool b) = Ending.returned (.bool c) := by rw [h]
theorem same_any (xs ys : List (List UInt8)) (va vb : Value) (w : World) (ha : Strs w va xs) (hb : Strs w vb ys) (hN : xs.length ≤ 140737488355328) :
    Calls Tryd.prog 14 #[va, vb] w fun e w' => e = .returned (.bool (decide (xs = ys))) ∧ Below w.heap.size w w' := by
  go_enter Tryd.func14, Tryd.ntmps14
  obtain ⟨A, ca, rfl, hca, hra⟩ := ha
  obtain ⟨B, cb, rfl, hcb, hrb⟩ := hb
  by_cases hl : xs.length = ys.length
  · by_cases hp : 0 < xs.length
    · obtain ⟨ba, oa, rfl, hla, hxa⟩ := hra hp
      obtain ⟨bb, ob, rfl, hlb, hxb⟩ := hrb (by omega)
      go_wp2_with fail
      go_loopw [13] (fun i wr => ∃ k : Nat, k ≤ xs.length ∧ i = .int .i64 k ∧ Hid (xs.take k = ys.take k) ∧ Below w.heap.size w wr) (fun i _ => xs.length - (intOf i).toNat)
      case atStart => exact ⟨0, Nat.zero_le _, rfl, Lib.hid rfl, Below.refl _ _⟩
      case round =>
        obtain ⟨k, hk, rfl, hall, hbw⟩ := hrel
        by_cases hlt : k < xs.length
        · have hlt2 : k < ys.length := by omega
          have hx := (hbw.cell (p := ⟨ba, oa + k, none⟩) hla).trans (hxa k xs[k] (by simp [hlt]))
          have hy := (hbw.cell (p := ⟨bb, ob + k, none⟩) hlb).trans (hxb k (ys[k]'(by omega)) (by simp))
          by_cases hxy : xs[k] = ys[k]'(by omega)
          · have htest : (!(mk xs[k]).toList == (mk (ys[k]'(by omega))).toList) = false := by rw [mk_eq, decide_eq_true hxy]; rfl
            have hnx := Lib.hid (show xs.take (k + 1) = ys.take (k + 1) by rw [List.take_succ_eq_append_getElem hlt, List.take_succ_eq_append_getElem hlt2, hall.out, hxy])
            clear hxy
            go_wp2_with fail
            go_quiet (fail)
            go_wp2_with fail
            go_roundw
            case rel => exact ⟨k + 1, by omega, by go_num, hnx, below_drewN hbw _⟩
            case measure => simp [intOf]; omega
          · have htest : (!(mk xs[k]).toList == (mk (ys[k]'(by omega))).toList) = true := by rw [mk_eq, decide_eq_false hxy]; rfl
            have hne := Lib.hid hxy
            clear hxy
            go_wp2_with fail
            go_quiet (fail)
            go_wp2_with fail
            go_ret
            exact ⟨ret_bool (by rw [decide_eq_false]; intro h; subst h; exact hne.out rfl), below_drewN hbw _⟩
        · go_wp2_with fail
          go_ret
          exact ⟨ret_bool (by rw [decide_eq_true]; have h := hall.out; rwa [List.take_of_length_le (by omega), List.take_of_length_le (by omega)] at h), hbw⟩
    · have hx : xs = [] := List.length_eq_zero_iff.1 (by omega)
      subst hx
      have hy : ys = [] := List.length_eq_zero_iff.1 hl.symm
      subst hy
      go_wp2_with fail
      go_loopw [13] (fun i wr => i = .int .i64 0 ∧ wr = w) (fun _ _ => 0)
      case atStart => exact ⟨rfl, rfl⟩
      case round =>
        obtain ⟨rfl, rfl⟩ := hrel
        go_wp2_with fail
        go_ret
        exact ⟨rfl, Below.refl _ _⟩
  · have hl' : ((xs.length : Int) == (ys.length : Int)) = false := by simp; omega
    have hl2 : ((xs.length : Int) != (ys.length : Int)) = true := by simp; omega
    go_wp2_with fail
    go_ret
    exact ⟨ret_bool (by rw [decide_eq_false]; intro h; exact hl (by rw [h])), Below.refl _ _⟩
theorem str_tests (x : List UInt8) : ((mk x).toList == (⟨#[97]⟩ : ByteArray).toList) = decide (x = [97]) := mk_eq x [97]
theorem str_none (x : List UInt8) : ((mk x).toList == (⟨#[]⟩ : ByteArray).toList) = decide (x = []) := mk_eq x []
theorem row_slice {w : World} {base size n : Nat} {e : TypeId} {v : Value} {xs : List Value} (h : w.ownsRow base e size v n xs) : ∃ A c, v = .slice A n c := by
  rcases h.2 with ⟨rfl, h0⟩ | ⟨g, cap, cur, rfl, _⟩
  · exact ⟨none, 0, by rw [h0]⟩
  · exact ⟨_, _, rfl⟩
theorem own_strs {w : World} {base : Nat} {v : Value} {xs : List (List UInt8)} (h : OwnStrs w base v xs) : Strs w v xs := row_strs h
theorem strs_below {w w' : World} {v : Value} {xs : List (List UInt8)} (h : Strs w v xs) (hb : Below w.heap.size w w') : Strs w' v xs := by
  obtain ⟨A, c, rfl, hc, hr⟩ := h
  refine ⟨A, c, rfl, hc, fun hp => ?_⟩
  obtain ⟨q, o, rfl, hq, hx⟩ := hr hp
  exact ⟨q, o, rfl, Nat.lt_of_lt_of_le hq hb.size, fun j x hj => old2 (hx j x hj) hq hb⟩
theorem rev_take (F : List Ent) (k : Nat) (hk : k < F.length) : F.reverse.take (k + 1) = F.reverse.take k ++ [F[F.length - 1 - k]'(by omega)] := by
  rw [List.take_succ_eq_append_getElem (by simpa using hk), List.getElem_reverse]
theorem step_append_own {P : Program} {w : World} {ops : Array Oper} {o : Oper} {a : Act} {K : Act → World → Prop} {Q : Exit → Act → World → Prop} {E : Prop} (hgd : o.guard = none) (s x : Operand) (t : TypeId)
    (ho : o.op = .call { callee := .builtin .append, args := #[s, x], argTypes := #[t, t] })
    (base : Nat) (e : TypeId) (i : TypeInfo) (z : Value) (size bytes : Nat) (ht : P.underlying t = some (.slice e)) (hi : P.info? e = some i) (hz : i.zero = some z)
    (hsize : i.size = size) (hby : i.bytes = bytes) (hzs : z.cells.size = size) (hsz : 0 < size)
    (v : Value) (n : Nat) (xs : List Value) (hs : a.eval s = v) (hown : w.ownsRow base e size v n xs)
    (ad : Addr) (m c : Nat) (news : List Value) (hx : a.eval x = .slice (some ad) m c) (hl : news.length = m * size) (hnews : ∀ j u, news[j]? = some u → w.cell? (ad.add j) = some u) (h1 : ∀ u ∈ news, u.oneCell' = true)
    (h63 : n + m ≤ maxLen) (hbytes : (n + m) * bytes ≤ 140737488355328) (hbase : base ≤ w.heap.size)
    (h : ∀ v' w', w'.ownsRow base e size v' (n + m) (xs ++ news) → w.grownBy w' v.ownBlock → K (a.put o.dst v') w') :
    if Region.wanted o (yielded ops a.tmps) = true then Oper.wp P o a w K Q else E := by
  have hw : Region.wanted o (yielded ops a.tmps) = true := by simp [Region.wanted, hgd]
  rw [if_pos hw]
  exact wp_append_own w s x t ho base e i z size bytes ht hi hz hsize hby hzs hsz v n xs hs hown ad m c news hx hl hnews h1 h63 hbytes hbase (fun v' w' h2 h3 _ => h v' w' h2 h3)
theorem ownsRow_prefix {w : World} {base g cap n k size : Nat} {e : TypeId} {xs : List Value} (h : w.ownsRow base e size (.slice (some ⟨g, 0, none⟩) n cap) n xs) (hk : k ≤ n) : w.ownsRow base e size (.slice (some ⟨g, 0, none⟩) k cap) k (xs.take (k * size)) := by
  obtain ⟨h1, h2⟩ := h
  have hks : k * size ≤ n * size := Nat.mul_le_mul_right size hk
  rcases h2 with ⟨h0, _⟩ | ⟨g', cap', cur, hv, hb, hg, h3, h4, h5, h6⟩
  · cases h0
  · cases hv
    refine ⟨by rw [List.length_take, h1]; omega, .inr ⟨g, cap, cur, rfl, hb, hg, by omega, h4, h5, ?_⟩⟩
    rw [← h6, List.take_take, Nat.min_eq_left hks]
def Blk (w : World) (b : Nat) (cs : Array Value) (T : TypeId) : Prop := w.heap[b]? = some (.cells cs T (0, 0))
theorem Blk.lt {w : World} {b : Nat} {cs : Array Value} {T : TypeId} (h : Blk w b cs T) : b < w.heap.size := (Array.getElem?_eq_some_iff.1 h).1
theorem Blk.below {w w' : World} {b : Nat} {cs : Array Value} {T : TypeId} (h : Blk w b cs T) (hB : Below w.heap.size w w') : Blk w' b cs T := (hB.block b h.lt).trans h
theorem Blk.grown {w w' : World} {b : Nat} {cs : Array Value} {T : TypeId} (h : Blk w b cs T) {ob : Option Nat} (hg : w.grownBy w' ob) (hne : some b ≠ ob) : Blk w' b cs T := (hg.block b h.lt hne).trans h
theorem Blk.new (w : World) (cs : Array Value) (T : TypeId) : Blk (w.alloc (.cells cs T)) w.heap.size cs T := heap_alloc_new w _
theorem Blk.cell {w : World} {b i : Nat} {cs : Array Value} {T : TypeId} {v : Value} (h : Blk w b cs T) (hi : cs[i]? = some v) : w.cell? ⟨b, i, none⟩ = some v := (cell_of_row _ b i _ _ _ h).trans hi
theorem Blk.free {w : World} {b i : Nat} {cs : Array Value} {T : TypeId} (h : Blk w b cs T) : w.frozen? ⟨b, i, none⟩ = false := by
  simp [World.frozen?, show w.heap[b]? = _ from h]
theorem Blk.set {w : World} {b i : Nat} {cs : Array Value} {T : TypeId} (h : Blk w b cs T) (v : Value) : Blk (w.setCell ⟨b, i, none⟩ v) b (cs.setIfInBounds i v) T := by
  have h' : w.heap[b]? = some (.cells cs T (0, 0)) := h
  show (w.setCell ⟨b, i, none⟩ v).heap[b]? = _
  simp [World.setCell, Array.getElem?_modify, h']
theorem Blk.far {w : World} {b c i : Nat} {cs : Array Value} {T : TypeId} (h : Blk w b cs T) (v : Value) (hne : b ≠ c) : Blk (w.setCell ⟨c, i, none⟩ v) b cs T := (Below.heap_setCell w ⟨c, i, none⟩ v b hne).trans h
/-- Everything below n0 reads as in W0. -/
def Kps (n0 : Nat) (W0 w : World) : Prop := Below n0 W0 w ∧ n0 ≤ w.heap.size
theorem Kps.sz {n0 : Nat} {W0 w : World} (h : Kps n0 W0 w) : n0 ≤ w.heap.size := h.2
theorem Kps.alloc {n0 : Nat} {W0 w : World} (h : Kps n0 W0 w) (o : Obj) : Kps n0 W0 (w.alloc o) := ⟨h.1.alloc h.2 o, by have := h.2; simp; omega⟩
theorem Kps.drew {n0 : Nat} {W0 w : World} (h : Kps n0 W0 w) : Kps n0 W0 w.drew := ⟨h.1.drew, h.2⟩
theorem Kps.call {n0 : Nat} {W0 w w' : World} (h : Kps n0 W0 w) (hb : Below w.heap.size w w') : Kps n0 W0 w' := ⟨h.1.trans (hb.mono h.2), Nat.le_trans h.2 hb.size⟩
theorem Kps.grown {n0 : Nat} {W0 w w' : World} {ob : Option Nat} (h : Kps n0 W0 w) (hg : w.grownBy w' ob) (ho : ∀ b, ob = some b → n0 ≤ b) : Kps n0 W0 w' := ⟨h.1.grown hg h.2 ho, Nat.le_trans h.2 hg.size⟩
theorem Kps.cell {n0 : Nat} {W0 w : World} (h : Kps n0 W0 w) {b o : Nat} {v : Value} (hb : b < n0) (hc : W0.cell? ⟨b, o, none⟩ = some v) : w.cell? ⟨b, o, none⟩ = some v := (h.1.cell (p := ⟨b, o, none⟩) hb).trans hc
theorem Blk.alloc {w : World} {b : Nat} {cs : Array Value} {T : TypeId} (h : Blk w b cs T) (o : Obj) : Blk (w.alloc o) b cs T := h.below ((Below.refl _ w).alloc (Nat.le_refl _) o)
theorem Blk.drew {w : World} {b : Nat} {cs : Array Value} {T : TypeId} (h : Blk w b cs T) : Blk w.drew b cs T := h
theorem Blk.newAt {w : World} {b : Nat} {cs : Array Value} {T : TypeId} (h : w.heap.size = b) : Blk (w.alloc (.cells cs T)) b cs T := by subst h; exact Blk.new w cs T
end Go.Proofs.YtphbieaoedbmpaaDoor.Rp
