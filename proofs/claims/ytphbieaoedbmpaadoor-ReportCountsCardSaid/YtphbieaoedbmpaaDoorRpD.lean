/- A report in memory; New; Count, Bytes, Chosen. -/
import Derived.Test.YtphbieaoedbmpaaDoorRpC
import Derived.Maps.OwnSet
import Derived.Maps.OwnOps
import Derived.StringKeys
namespace Go.Proofs.YtphbieaoedbmpaaDoor.Rp
open Go.RowKit Go.Maps Go.Sort Go.Shelf Go.Proofs.YtphbieaoedbmpaaDoor.Oct
set_option linter.unusedVariables false
/-- How a tally reads. -/
def talE : Value → Option (DataW Unit × List MemPlace)
  | .agg ⟨[.int .i64 a, .int .i64 b]⟩ => some (.agg [.lit (.int .i64 a), .lit (.int .i64 b)], [])
  | _ => none
theorem talE_mk (a b : Int) : talE (.agg #[.int .i64 a, .int .i64 b]) = some (.agg [.lit (.int .i64 a), .lit (.int .i64 b)], []) := rfl
theorem talE_inv {v : Value} {a b : Int} {ps : List MemPlace} (h : talE v = some (.agg [.lit (.int .i64 a), .lit (.int .i64 b)], ps)) : v = .agg #[.int .i64 a, .int .i64 b] := by
  unfold talE at h
  split at h
  · simp at h
    obtain ⟨⟨rfl, rfl⟩, _⟩ := h
    rfl
  · cases h
noncomputable def chE : Value → Option (DataW Unit × List MemPlace) := plainElem Tryd.prog 3
def tal0 : DataW Unit := .agg [.lit (.int .i64 0), .lit (.int .i64 0)]
def int0 : DataW Unit := .lit (.int .i64 0)
theorem zeroTal (w : World) : (zeroValue 51).run Tryd.prog w = .ok (.agg #[.int .i64 0, .int .i64 0]) w := by kernel_rfl
theorem zeroInt (w : World) : (zeroValue 3).run Tryd.prog w = .ok (.int .i64 0) w := by kernel_rfl
theorem tal_field (a b : Int) (W : World) : (Instr.field 51 (.agg #[.int .i64 a, .int .i64 b]) 0).run Tryd.prog W = .ok (.int .i64 a) W ∧ (Instr.field 51 (.agg #[.int .i64 a, .int .i64 b]) 1).run Tryd.prog W = .ok (.int .i64 b) W :=
  ⟨by kernel_rfl, by kernel_rfl⟩
theorem lawI : Keyed Tryd.prog 3 := int_keyed Tryd.underlying3
theorem lawS : Keyed Tryd.prog 9 := string_keyed Tryd.underlying9
/-- A report in memory: its notes, those that are counted by kinds, those by names. -/
structure RMX (w : World) (rb g : Nat) (ns ms cs : List Nt) (nv : Value) (kb cb : Nat) (DK DC : DataW Unit) : Prop where
  blk : Blk w rb #[nv, .map (some kb), .map (some cb)] 56
  row : OwnN 63 ntP w g nv ns
  kinds : w.ownsMap Tryd.prog 3 talE kb ms.length DK
  chosen : w.ownsMap Tryd.prog 9 chE cb cs.length DC
  kat : ∀ k : Int, (Lit.int .i64 k).wf = true → DK.atKey (.int .i64 k) tal0 = .agg [.lit (.int .i64 (cntN k ms)), .lit (.int .i64 (bytN k ms))]
  cat : ∀ n : List UInt8, DC.atKey (.string n) int0 = .lit (.int .i64 (choN n cs))
  chas : ∀ n : List UInt8, has DC (.string n) = decide (0 < choN n cs)
  ne : kb ≠ cb
  lt : rb < g ∧ kb < g ∧ cb < g
  ap : kb ≠ rb ∧ cb ≠ rb
abbrev RM (w : World) (rb g : Nat) (ns : List Nt) (nv : Value) (kb cb : Nat) (DK DC : DataW Unit) : Prop := RMX w rb g ns ns ns nv kb cb DK DC
theorem RMX.drewN {w : World} {rb g : Nat} {ns ms cs : List Nt} {nv : Value} {kb cb : Nat} {DK DC : DataW Unit} (h : RMX w rb g ns ms cs nv kb cb DK DC) (n : Nat) : RMX (w.drewN n) rb g ns ms cs nv kb cb DK DC :=
  ⟨h.blk, h.row, h.kinds, h.chosen, h.kat, h.cat, h.chas, h.ne, h.lt, h.ap⟩
theorem RMX.drew {w : World} {rb g : Nat} {ns ms cs : List Nt} {nv : Value} {kb cb : Nat} {DK DC : DataW Unit} (h : RMX w rb g ns ms cs nv kb cb DK DC) : RMX w.drew rb g ns ms cs nv kb cb DK DC :=
  ⟨h.blk, h.row, h.kinds, h.chosen, h.kat, h.cat, h.chas, h.ne, h.lt, h.ap⟩
theorem below_grown {w w' : World} (h : Below w.heap.size w w') : w.grownBy w' none := ⟨h.os, h.tape, h.output, h.size, fun k hk _ => h.block k hk⟩
theorem RMX.below {w w' : World} {rb g : Nat} {ns ms cs : List Nt} {nv : Value} {kb cb : Nat} {DK DC : DataW Unit} (h : RMX w rb g ns ms cs nv kb cb DK DC) (hb : Below w.heap.size w w') : RMX w' rb g ns ms cs nv kb cb DK DC :=
  ⟨h.blk.below hb, h.row.kept (below_grown hb) (by cases nv.ownBlock <;> simp), h.kinds.kept (below_grown hb) (by simp), h.chosen.kept (below_grown hb) (by simp), h.kat, h.cat, h.chas, h.ne, h.lt, h.ap⟩
set_option maxRecDepth 100000 in
theorem new_any (w : World) :
    Calls Tryd.prog 19 #[] w fun e w' => ∃ rb kb cb, e = .returned (.pointer (some ⟨rb, 0, none⟩)) ∧ w.heap.size ≤ rb ∧ w.heap.size ≤ kb ∧ w.heap.size ≤ cb ∧ RM w' rb w'.heap.size [] (.slice none 0 0) kb cb (.map []) (.map []) ∧ Below w.heap.size w w' := by
  have hmm := @run_makeMap Tryd.prog
  go_enter Tryd.func19, Tryd.ntmps19
  go_wp2
  go_ret
  refine ⟨w.heap.size + 2, w.heap.size, w.heap.size + 1, rfl, by omega, by omega, by omega, ⟨Blk.newAt (by simp), World.ownsRow_nil _ _ _ _, ?_, ?_, fun k _ => rfl, fun n => rfl, fun n => rfl, by omega, by simp <;> omega, by omega⟩, ?_⟩
  · exact ((World.ownsMap_made w Tryd.prog 3 talE).alloc _).alloc _
  · have := (World.ownsMap_made (w.alloc (.map #[] 0)) Tryd.prog 9 chE).alloc (.cells #[.slice none 0 0, .map (some w.heap.size), .map (some (w.heap.size + 1))] 56)
    rw [World.size_alloc] at this
    exact this
  · (repeat' (first | exact Below.refl _ _ | refine Below.alloc ?_ (by simp <;> omega) _))
set_option maxRecDepth 100000 in
theorem count_any {w : World} {rb g : Nat} {ns : List Nt} {nv : Value} {kb cb : Nat} {DK DC : DataW Unit} (h : RM w rb g ns nv kb cb DK DC) (kd : Int) (hk : (Lit.int .i64 kd).wf = true) :
    Calls Tryd.prog 8 #[.pointer (some ⟨rb, 0, none⟩), .int .i64 kd] w fun e w' => e = .returned (.int .i64 (cntN kd ns)) ∧ Below w.heap.size w w' := by
  have c1 : w.cell? ⟨rb, 1, none⟩ = some (.map (some kb)) := h.blk.cell rfl
  obtain ⟨v, ps, hrun, hR⟩ := h.kinds.lookup lawI Tryd.underlying53 (zeroTal w) (talE_mk 0 0) (keyOf_int_mk Tryd.underlying3 hk)
  rw [show (DataW.agg [.lit (.int .i64 0), .lit (.int .i64 0)] : DataW Unit) = tal0 from rfl, h.kat kd hk] at hR
  have hv := talE_inv hR
  subst hv
  clear h hR hk
  have hf0 := fun W => (tal_field (cntN kd ns) (bytN kd ns) W).1
  have hf1 := fun W => (tal_field (cntN kd ns) (bytN kd ns) W).2
  go_enter Tryd.func8, Tryd.ntmps8
  go_wp2
  go_ret
  refine ⟨rfl, ?_⟩
  (repeat' (first | exact Below.refl _ _ | refine Below.alloc ?_ (by simp) _))
set_option maxRecDepth 100000 in
theorem bytes_any {w : World} {rb g : Nat} {ns : List Nt} {nv : Value} {kb cb : Nat} {DK DC : DataW Unit} (h : RM w rb g ns nv kb cb DK DC) (kd : Int) (hk : (Lit.int .i64 kd).wf = true) :
    Calls Tryd.prog 9 #[.pointer (some ⟨rb, 0, none⟩), .int .i64 kd] w fun e w' => e = .returned (.int .i64 (bytN kd ns)) ∧ Below w.heap.size w w' := by
  have c1 : w.cell? ⟨rb, 1, none⟩ = some (.map (some kb)) := h.blk.cell rfl
  obtain ⟨v, ps, hrun, hR⟩ := h.kinds.lookup lawI Tryd.underlying53 (zeroTal w) (talE_mk 0 0) (keyOf_int_mk Tryd.underlying3 hk)
  rw [show (DataW.agg [.lit (.int .i64 0), .lit (.int .i64 0)] : DataW Unit) = tal0 from rfl, h.kat kd hk] at hR
  have hv := talE_inv hR
  subst hv
  clear h hR hk
  have hf0 := fun W => (tal_field (cntN kd ns) (bytN kd ns) W).1
  have hf1 := fun W => (tal_field (cntN kd ns) (bytN kd ns) W).2
  go_enter Tryd.func9, Tryd.ntmps9
  go_wp2
  go_ret
  refine ⟨rfl, ?_⟩
  (repeat' (first | exact Below.refl _ _ | refine Below.alloc ?_ (by simp) _))
set_option maxRecDepth 100000 in
theorem chosen_any {w : World} {rb g : Nat} {ns : List Nt} {nv : Value} {kb cb : Nat} {DK DC : DataW Unit} (h : RM w rb g ns nv kb cb DK DC) (nm : List UInt8) (hn : nm.length ≤ 1000) :
    Calls Tryd.prog 10 #[.pointer (some ⟨rb, 0, none⟩), .string (mk nm)] w fun e w' => e = .returned (.int .i64 (choN nm ns)) ∧ Below w.heap.size w w' := by
  have c2 : w.cell? ⟨rb, 2, none⟩ = some (.map (some cb)) := h.blk.cell rfl
  have hkey : keyOf Tryd.prog 9 (.string (mk nm)) = some (.string nm) := Go.WideMaps.keyOf_string_mk Tryd.underlying9 (by rw [mk_size]; unfold maxLen; omega)
  obtain ⟨c, hrun, hat, _⟩ := World.ownsMap.lookup_int h.chosen lawS Tryd.underlying54 Tryd.underlying3 (zeroInt w) hkey
  rw [show (DataW.lit (.int .i64 0) : DataW Unit) = int0 from rfl, h.cat nm] at hat
  have hc : c = choN nm ns := by simpa using hat.symm
  subst hc
  clear h hat hkey
  go_enter Tryd.func10, Tryd.ntmps10
  go_wp2
  go_ret
  exact ⟨rfl, Below.refl _ _⟩
end Go.Proofs.YtphbieaoedbmpaaDoor.Rp
