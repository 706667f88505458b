/- Bytes in a row of the call's own, read from some place on; a string's bytes put behind them. -/
import Derived.Test.YtiamkhhnnlgemaaDoorSipF
import Derived.Lib.AppendStr
namespace Go.Proofs.YtiamkhhnnlgemaaDoor.Sip
open Go.RowKit Go.Lib
set_option linter.unusedVariables false
def u8V (b : UInt8) : Value := .int .u8 (b.toNat : Int)
/-- A slice whose bytes lie in a row of the call's own, at or above a block. -/
def OffRow (w : World) (base : Nat) (v : Value) (l : List UInt8) : Prop :=
  (v = .slice none 0 0 ∧ l = []) ∨ ∃ (g off cap : Nat) (cur : Array Value), v = .slice (some ⟨g, off, none⟩) l.length cap ∧ base ≤ g ∧ w.heap[g]? = some (.cells cur 5) ∧ l.length ≤ cap ∧ off + cap ≤ cur.size ∧ ∀ j (h : j < l.length), cur[off + j]? = some (u8V l[j])
section
variable {P : Program} (w : World)
theorem run_append_off_string (t u ty e : TypeId) (i : TypeInfo) (ht : P.underlying t = some (.slice e)) (hu : P.underlying u = some .string) (hi : P.info? e = some i) (hs1 : i.size = 1)
    (g off sLen sCap : Nat) (cur : Array Value) (hg : w.heap[g]? = some (.cells cur e (0, 0))) (s : ByteArray)
    (hroom : sLen + s.size ≤ sCap) (hfit : off + sLen + s.size ≤ cur.size) :
    (Builtin.append_ #[t, u] ty #[.slice (some ⟨g, off, none⟩) sLen sCap, .string s]).run P w =
      .ok (.slice (some ⟨g, off, none⟩) (sLen + s.size) sCap) (w.setRow g (cur.toList.take (off + sLen) ++ strCells s ++ cur.toList.drop (off + sLen + s.size)).toArray) := by
  have hf := run_firstCells_string (P := P) w 1 s
  have hst := run_storeCells_at P g (off + sLen) e (strCells s) 0 cur w hg (by simpa [strCells_length] using hfit) (strCells_oneCell s)
  simp only [Nat.add_zero, strCells_length] at hst
  simp [Builtin.append_, run_underlying ht, run_underlying hu, sizeOf, typeInfo, hi, hs1, Builtin.lenOf, hroom, hf, Addr.add_lit, hst]
end
theorem strCells_mk (l : List UInt8) : strCells (mk l) = l.map u8V := rfl
theorem OffRow.cell {w : World} {base : Nat} {l : List UInt8} {g off n cap : Nat} (h : OffRow w base (.slice (some ⟨g, off, none⟩) n cap) l) : l.length = n ∧ ∀ j (h : j < l.length), w.cell? ⟨g, off + j, none⟩ = some (u8V l[j]) := by
  rcases h with ⟨h, _⟩ | ⟨g', off', cap', cur, hv, hb, hg, hl, hc, hj⟩
  · cases h
  · cases hv
    refine ⟨rfl, fun j h => ?_⟩
    simp only [World.cell?, hg, Option.isSome_none, Bool.false_eq_true, if_false]
    exact hj j h
theorem off_append (w : World) (base : Nat) (v : Value) (l t : List UInt8) (ty : TypeId) (i : TypeInfo) (hi : Tryd.prog.info? 5 = some i) (hz : i.zero = some (.int .u8 0)) (hs1 : i.size = 1) (hby : i.bytes = 1)
    (h : OffRow w base v l) (hb : base ≤ w.heap.size) (hlen : l.length + t.length ≤ 10000000) :
    ∃ v' w', (Builtin.append_ #[37, 9] ty #[v, .string (mk t)]).run Tryd.prog w = .ok v' w' ∧ OffRow w' base v' (l ++ t) ∧ w.grownBy w' v.ownBlock := by
  have hts := mk_size t
  rcases h with ⟨rfl, rfl⟩ | ⟨g, off, cap, cur, rfl, hbg, hg, hl, hc, hj⟩
  · obtain ⟨v', w', hr, hown, hgr, hn⟩ := run_append_own_string (P := Tryd.prog) w base 37 9 ty 5 i Tryd.underlying37 Tryd.underlying9 hi hz hs1 hby (.slice none 0 0) 0 [] (World.ownsRow_nil _ _ _ _) (mk t) (by unfold maxLen; omega) (by omega) hb
    refine ⟨v', w', hr, ?_, hgr⟩
    rw [strCells_mk, List.nil_append, Nat.zero_add, hts] at hown
    rcases hown.2 with ⟨rfl, h0⟩ | ⟨g, cap, cur, rfl, hbg, hg, hnc, hcm, hcs, htake⟩
    · exact .inl ⟨rfl, by simpa using List.eq_nil_of_length_eq_zero h0⟩
    · refine .inr ⟨g, 0, cap, cur, rfl, hbg, hg, by simpa using hnc, by omega, fun j h => ?_⟩
      have e : (cur.toList.take (t.length * 1))[j]? = (t.map u8V)[j]? := by rw [htake]
      simp at h
      rw [List.getElem?_take_of_lt (by omega)] at e
      simpa [h] using e
  · by_cases hroom : l.length + t.length ≤ cap
    · have hr := run_append_off_string (P := Tryd.prog) w 37 9 ty 5 i Tryd.underlying37 Tryd.underlying9 hi hs1 g off l.length cap cur hg (mk t) (by omega) (by omega)
      refine ⟨_, _, hr, .inr ⟨g, off, cap, _, by rw [hts, List.length_append], hbg, setRow_heap w g cur _ 5 _ hg, by rw [List.length_append]; exact hroom, ?_, fun j h => ?_⟩, ⟨rfl, rfl, rfl, by simp, fun k _ hk => setRow_other w g k _ (fun e => hk (by simp [Value.ownBlock, e]))⟩⟩
      · simp only [List.size_toArray, List.length_append, List.length_take, List.length_drop, Array.length_toList, strCells_length]
        omega
      · rw [List.length_append] at h
        rw [strCells_mk, List.getElem?_toArray, List.append_assoc]
        have hcl : cur.toList.length = cur.size := by simp
        by_cases hjl : j < l.length
        · rw [List.getElem?_append_left (by rw [List.length_take]; omega), List.getElem?_take_of_lt (by omega), Array.getElem?_toList, hj j hjl, List.getElem_append_left hjl]
        · rw [List.getElem?_append_right (by rw [List.length_take]; omega), List.length_take, Nat.min_eq_left (by omega), List.getElem?_append_left (by rw [List.length_map]; omega), List.getElem?_map, List.getElem?_eq_getElem (by omega), Option.map_some, List.getElem_append_right (by omega)]
          simp only [show off + j - (off + l.length) = j - l.length by omega]
    · have holds : ∀ j u, (l.map u8V)[j]? = some u → w.cell? ((⟨g, off, none⟩ : Addr).add j) = some u := by
        intro j u hu
        rw [List.getElem?_map] at hu
        obtain ⟨b, hb2, rfl⟩ := Option.map_eq_some_iff.1 hu
        have hjl := (List.getElem?_eq_some_iff.1 hb2).1
        rw [Addr.add_lit]
        simp only [World.cell?, hg, Option.isSome_none, Bool.false_eq_true, if_false]
        rw [hj j hjl]
        rw [List.getElem?_eq_getElem hjl] at hb2
        rw [Option.some.inj hb2]
      have hr := run_append_grow_string (P := Tryd.prog) w 37 9 ty 5 i (.int .u8 0) Tryd.underlying37 Tryd.underlying9 hi hz ⟨g, off, none⟩ l.length cap (l.map u8V) (by rw [hs1]; simp) holds (mk t) (by omega) (by omega) (by rw [hby]; exact growslice_fits (by omega) (by omega))
      refine ⟨_, _, hr, .inr ⟨w.heap.size, 0, _, _, by rw [hts, List.length_append], hb, heap_alloc_new w.drew _, by rw [List.length_append, ← hts]; exact grownCap_ge w _ _ _, ?_, fun j h => ?_⟩, ⟨rfl, rfl, rfl, by simp, fun k hk _ => Below.heap_alloc w.drew _ k hk⟩⟩
      · have hge := grownCap_ge w (l.length + (mk t).size) cap 5
        have hz1 : (Value.int IntKind.u8 0).cells.size = 1 := rfl
        simp only [Array.size_append, List.size_toArray, size_zeroCells, hz1, List.length_map, strCells_length]
        rw [hts] at hge ⊢
        omega
      · rw [strCells_mk, Nat.zero_add]
        rw [List.length_append] at h
        have e : (l.map u8V).toArray ++ (t.map u8V).toArray = ((l ++ t).map u8V).toArray := by simp
        rw [e, Array.getElem?_append_left (by simp; omega), List.getElem?_toArray, List.getElem?_map, List.getElem?_eq_getElem (by rw [List.length_append]; exact h)]
        rfl
theorem OffRow.kept {w w' : World} {g : Nat} {v : Value} {l : List UInt8} (h : OffRow w (g + 1) v l) (hk : w.grownBy w' (some g)) : OffRow w' (g + 1) v l := by
  rcases h with h | ⟨g1, off, cap, cur, hv, hb, hg, hl, hc, hj⟩
  · exact .inl h
  · exact .inr ⟨g1, off, cap, cur, hv, hb, (hk.block g1 (Array.getElem?_eq_some_iff.1 hg).1 (by intro e; cases e; omega)).trans hg, hl, hc, hj⟩
theorem OffRow.shape {w : World} {base : Nat} {v : Value} {l : List UInt8} (h : OffRow w base v l) (h8 : 0 < l.length) : ∃ g off cap, v = .slice (some ⟨g, off, none⟩) l.length cap ∧ base ≤ g ∧ l.length ≤ cap := by
  rcases h with ⟨_, h⟩ | ⟨g1, off, cap, cur, hv, hb, hg, hl, hc, hj⟩
  · rw [h] at h8; exact absurd h8 (by simp)
  · exact ⟨g1, off, cap, hv, hb, hl⟩
theorem OffRow.len {w : World} {base : Nat} {v : Value} {l : List UInt8} (h : OffRow w base v l) : ∃ p cap, v = .slice p l.length cap := by
  rcases h with ⟨hv, h⟩ | ⟨g1, off, cap, cur, hv, hb, hg, hl, hc, hj⟩
  · exact ⟨none, 0, by rw [h]; exact hv⟩
  · exact ⟨_, cap, hv⟩
theorem OffRow.drop {w : World} {base : Nat} {g off n cap : Nat} {l : List UInt8} (h : OffRow w base (.slice (some ⟨g, off, none⟩) n cap) l) (h8 : 8 ≤ l.length) : OffRow w base (.slice (if cap = 8 then some ⟨g, off, none⟩ else some ⟨g, off + 8, none⟩) (n - 8) (cap - 8)) (l.drop 8) := by
  rcases h with ⟨h, _⟩ | ⟨g', off', cap', cur, hv, hb, hg, hl, hc, hj⟩
  · cases h
  · cases hv
    by_cases h0 : cap = 8
    · rw [if_pos h0]
      refine .inr ⟨g, off, cap - 8, cur, by rw [List.length_drop], hb, hg, by rw [List.length_drop]; omega, by omega, fun j h => ?_⟩
      rw [List.length_drop] at h
      omega
    · rw [if_neg h0]
      refine .inr ⟨g, off + 8, cap - 8, cur, by rw [List.length_drop], hb, hg, by rw [List.length_drop]; omega, by omega, fun j h => ?_⟩
      rw [List.length_drop] at h
      rw [List.getElem_drop, Nat.add_assoc, hj (8 + j) (by omega)]
theorem below_keep {g : Nat} {w w' : World} {ob : Option Nat} (h : w.grownBy w' ob) (hg : g ≤ w.heap.size) (ho : ∀ b, ob = some b → g ≤ b) : Below g w w' :=
  ⟨h.os, h.tape, h.output, h.size, fun k hk => h.block k (by omega) (by intro e; have := ho k e.symm; omega)⟩
theorem wpList_append_off (w : World) {ops : Array Oper} {rest : List Oper} {o : Oper} {a : Act} {Q : Exit → Act → World → Prop} (hgd : o.guard = none) (sl x : Operand)
    (ho : o.op = .call { callee := .builtin .append, args := #[sl, x], argTypes := #[37, 9] })
    (base : Nat) (v : Value) (l t : List UInt8) (i : TypeInfo) (hi : Tryd.prog.info? 5 = some i) (hz : i.zero = some (.int .u8 0)) (hs1 : i.size = 1) (hby : i.bytes = 1)
    (hs : a.eval sl = v) (hx : a.eval x = .string (mk t)) (hr : OffRow w base v l) (hb : base ≤ w.heap.size) (hlen : l.length + t.length ≤ 10000000)
    (h : ∀ v' w', OffRow w' base v' (l ++ t) → w.grownBy w' v.ownBlock → wpList Tryd.prog ops Q rest (a.put o.dst v') w') : wpList Tryd.prog ops Q (o :: rest) a w := by
  refine wpList_plain hgd fun K hK => ?_
  obtain ⟨v', w', hrun, h2, h3⟩ := off_append w base v l t o.type i hi hz hs1 hby hr hb hlen
  unfold Oper.wp execOp
  simp only [ho, resolve, invoke, builtin, Sem.run_bind, Sem.run_pure, Result.andThen_ok, List.map_toArray, List.map_cons, List.map_nil, hs, hx, hrun]
  exact hK _ _ (h v' w' h2 h3)
theorem OffRow.own {w : World} {base : Nat} {v : Value} {l : List UInt8} (h : OffRow w base v l) : ∀ b, v.ownBlock = some b → base ≤ b := by
  rcases h with ⟨hv, _⟩ | ⟨g1, off, cap, cur, hv, hb, _⟩
  · subst hv; intro b e; cases e
  · subst hv; intro b e; simp [Value.ownBlock] at e; omega
end Go.Proofs.YtiamkhhnnlgemaaDoor.Sip
