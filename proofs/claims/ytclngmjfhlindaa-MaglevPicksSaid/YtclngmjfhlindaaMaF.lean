/- slices.Repeat at ints. -/
import Derived.Test.YtclngmjfhlindaaMaB
import Derived.Test.YtclngmjfhlindaaShelf
import Derived.Laws.CopyOwn
import Derived.Deep.RegionHeld3
namespace Go.Proofs.Ytclngmjfhlindaa.Ma
open Go.RowKit Go.Proofs.Ytclngmjfhlindaa.Sip
set_option linter.unusedVariables false
theorem infoI : (Try.prog.info? 3).map (fun i => (i.zero, i.size, i.bytes)) = some (some (.int .i64 0), 1, 8) := by kernel_rfl
theorem rowCur {w : World} {base g cap m : Nat} {e : TypeId} {xs : List Value} (h : w.ownsRow base e 1 (.slice (some ⟨g, 0, none⟩) m cap) m xs) :
    ∃ cur : List Value, w.heap[g]? = some (.cells cur.toArray e (0, 0)) ∧ m ≤ cap ∧ cap ≤ maxLen ∧ cur.length = cap ∧ cur.take m = xs := by
  rcases h.2 with ⟨h0, _⟩ | ⟨g', cap', cur, hv, _, hg, h1, h2, h3, h4⟩
  · cases h0
  · cases hv
    exact ⟨cur.toList, hg, h1, h2, by simpa using h3, by simpa using h4⟩
theorem take_splice {α : Type} (cur : List α) (n k : Nat) (a : α) (h1 : cur.take n = List.replicate n a) (h2 : n + k ≤ cur.length) : (splice cur n (List.replicate k a)).take (n + k) = List.replicate (n + k) a := by
  unfold splice
  rw [h1, ← List.append_assoc, List.take_append_of_le_length (by simp), List.take_of_length_le (by simp), List.replicate_append_replicate]
theorem splice_len {α : Type} (cur : List α) (n k : Nat) (a : α) (h2 : n + k ≤ cur.length) : (splice cur n (List.replicate k a)).length = cur.length := length_splice _ _ _ (by simpa using h2)
theorem rep_cell {w : World} {g n : Nat} {cur : List Value} {e : TypeId} {a : Value} (h : w.heap[g]? = some (.cells cur.toArray e (0, 0))) (h1 : cur.take n = List.replicate n a) (hn : n ≤ cur.length) (j : Nat) (hj : j < n) : w.cell? ⟨g, j, none⟩ = some a := by
  rw [cell_of_row _ g j _ _ _ h]
  have h2 : (cur.take n)[j]? = (List.replicate n a)[j]? := by rw [h1]
  rw [List.getElem?_take_of_lt hj, List.getElem?_replicate, if_pos hj] at h2
  simpa using h2
theorem wrapN (n k : Nat) (h : n + k ≤ 1048576) : IntKind.i64.wrap ((n : Int) + (k : Int)) = ((n + k : Nat) : Int) := by
  simp only [IntKind.wrap, IntKind.bits, IntKind.signed]
  simp
  omega
theorem one_src {w : World} {b o : Nat} {x : Value} (h : w.cell? ⟨b, o, none⟩ = some x) : ∀ j v, [x][j]? = some v → w.cell? ((⟨b, o, none⟩ : Addr).add j) = some v := by
  intro j v hv
  cases j with
  | zero => rw [Addr.add_lit]; simp at hv; rw [← hv]; exact h
  | succ j => simp at hv
set_option maxRecDepth 100000 in
set_option maxHeartbeats 4000000 in
theorem repeat_any (x : Int) (b o c : Nat) (m : Nat) (hm : 1 ≤ m) (hm2 : m ≤ 1048576) (w : World) (hx : w.cell? ⟨b, o, none⟩ = some (.int .i64 x)) (hb : b < w.heap.size) :
    Calls Try.prog 30 #[.slice (some ⟨b, o, none⟩) 1 c, .int .i64 m] w fun e w' => ∃ v, e = .returned v ∧ w'.ownsRow w.heap.size 3 1 v m (List.replicate m (.int .i64 x)) ∧ Below w.heap.size w w' := by
  obtain ⟨i0, hi, hz0, hz1, hz2⟩ := info_parts infoI
  have hsz : (Try.prog.info? 3).map (·.size) = some 1 := by kernel_rfl
  have hb0 : Below w.heap.size w w := Below.refl _ _
  have dM := fun W => Try.bits_Mul 1 m (by omega) (by omega) W
  rw [show 1 * m / 18446744073709551616 = 0 by omega, show 1 * m % 18446744073709551616 = m by omega] at dM
  go_enter Try.func30, Try.ntmps30
  go_wp2_with (first
    | (go_at_call 43; refine (dM _).mono ?_; rintro e w1 ⟨rfl, hw⟩; rw [hw]; clear hw w1)
    | (at_make; refine wpList_make_full _ rfl _ _ 43 rfl w.heap.size 3 i0 _ 1 Try.underlying43 hi hz0 hz1 .i64 .i64 _ _ m rfl rfl rfl rfl (by rw [hz2]; omega) (by unfold maxLen; omega) (Nat.le_refl _) ?_; intro w1 hown1 hgrow1; obtain ⟨cur, hcur, _, _, hlc, _⟩ := rowCur hown1; have hb1 := hb0.grown hgrow1 (Nat.le_refl _) (fun k e => by cases e); have hx1 := (hb1.cell (p := ⟨b, o, none⟩) hb).trans hx)
    | (with_reducible show wpList _ _ _ ({ dst := _, op := Op.call { callee := Callee.builtin Builtin.copy, args := _, argTypes := _ }, type := _, pos := _, after := _, guard := _ } :: _) _ _; refine wpList_copy_splice rfl _ _ 43 43 rfl 3 Try.underlying43 hsz _ _ _ _ _ _ rfl rfl w.heap.size 0 cur 3 hcur [.int .i64 x] (Nat.min_eq_left hm).symm (fun _ => ⟨rfl, _, rfl, one_src hx1⟩) (by rw [hlc]; simpa using hm) (by simp [Value.oneCell']) w.heap.size w hb1 (Nat.le_refl _) ?_; intro w2 hc2 hb2))
  replace hc2 := hc2
  have ht1 : (splice cur 0 [.int .i64 x]).take 1 = List.replicate 1 (.int .i64 x) := take_splice cur 0 1 (.int .i64 x) rfl (by omega)
  have hl1 : (splice cur 0 [.int .i64 x]).length = m := (splice_len cur 0 1 (.int .i64 x) (by omega)).trans hlc
  clear hcur hown1 hgrow1 hx1 hb1 dM
  generalize splice cur 0 [.int .i64 x] = cur1 at *
  clear hlc
  generalize hg : w.heap.size = g at *
  go_loopw [8] (fun nv wr => ∃ (n : Nat) (cur : List Value), nv = .int .i64 n ∧ 1 ≤ n ∧ n ≤ m ∧ Hid (wr.heap[g]? = some (.cells cur.toArray 3 (0, 0))) ∧ Hid (cur.length = m) ∧ Hid (cur.take n = List.replicate n (.int .i64 x)) ∧ Below g w wr) (fun nv _ => m - (intOf nv).toNat)
  case atStart => exact ⟨1, cur1, rfl, Nat.le_refl _, hm, hc2, Lib.hid hl1, Lib.hid ht1, hb2⟩
  case round =>
    obtain ⟨n, cur, rfl, hn1, hn2, hcu, hlen, htk, hb⟩ := hrel
    by_cases c1 : n < m
    · have d1 : (0 : Int) ≤ (n : Int) := by omega
      have d2 : (n : Int) ≤ (m : Int) := by omega
      have hkm : Nat.min n (m - n) ≤ m - n := Nat.min_le_right _ _
      have hkn : Nat.min n (m - n) ≤ n := Nat.min_le_left _ _
      have hk1 : 1 ≤ Nat.min n (m - n) := by show 1 ≤ min n (m - n); omega
      have hkl : (List.replicate (Nat.min n (m - n)) (Value.int .i64 x)).length = Nat.min n (m - n) := List.length_replicate
      have hsrc : ∀ j v, (List.replicate (Nat.min n (m - n)) (Value.int .i64 x))[j]? = some v → wr.drew.cell? ((⟨g, 0, none⟩ : Addr).add j) = some v := by
        intro j v hv
        rw [List.getElem?_replicate] at hv
        split at hv
        · cases hv
          rw [Addr.add_lit, Nat.zero_add]
          exact rep_cell (w := wr.drew) hcu.out htk.out (by rw [hlen.out]; omega) j (by omega)
        · cases hv
      have hfit : n + (List.replicate (Nat.min n (m - n)) (Value.int .i64 x)).length ≤ cur.length := by rw [hkl, hlen.out]; omega
      have hone : ∀ v ∈ List.replicate (Nat.min n (m - n)) (Value.int .i64 x), v.oneCell' = true := fun v hv => by rw [(List.mem_replicate.1 hv).2]; rfl
      have hN2 := Lib.hid (take_splice cur n (Nat.min n (m - n)) (Value.int .i64 x) htk.out (by rw [hlen.out]; omega))
      have hL2 := Lib.hid ((splice_len cur n (Nat.min n (m - n)) (Value.int .i64 x) (by rw [hlen.out]; omega)).trans hlen.out)
      have hkk : Hid (Nat.min n (m - n) = Nat.min n (m - n)) := Lib.hid rfl
      generalize hkdef : Nat.min n (m - n) = k at *
      have hmn : ¬ m = n := by omega
      go_wp2
      go_region_held3 (fun w' => True) (first | trivial | go_keep)
        (first
          | (refine step_copy_splice (by rfl) _ _ 43 43 (by rfl) 3 Try.underlying43 hsz (some ⟨g, n, none⟩) (some ⟨g, 0, none⟩) (m - n) (m - n) n m (by first | rfl | (show Value.slice (if m = n then _ else _) _ _ = _; rw [if_neg hmn])) (by rfl) g n cur 3 (show wr.drew.heap[g]? = _ from hcu.out) (List.replicate k (.int .i64 x)) (by rw [hkl]; exact hkdef.symm) (fun _ => ⟨rfl, _, rfl, hsrc⟩) hfit hone g w hb.drew (Nat.le_refl _) ?_; intro w3 hc3 hb3))
      go_wp2
      go_roundw
      case rel => exact ⟨n + k, splice cur n (List.replicate k (.int .i64 x)), by rw [wrapN n k (by omega)], by omega, by omega, hc3, hL2, hN2, hb3⟩
      case measure => rw [wrapN n k (by omega)]; simp only [intOf, Int.toNat_natCast]; omega
    · have hnm : n = m := by omega
      subst hnm
      go_wp2
      go_ret
      refine ⟨_, rfl, ?_, ?_⟩ <;> (try rw [hg])
      · exact ⟨by simp, .inr ⟨g, _, cur.toArray, rfl, Nat.le_refl _, hcu.out, Nat.le_refl _, by unfold maxLen; omega, by simp [hlen.out], by rw [Nat.mul_one]; exact htk.out⟩⟩
      · exact hb
end Go.Proofs.Ytclngmjfhlindaa.Ma
