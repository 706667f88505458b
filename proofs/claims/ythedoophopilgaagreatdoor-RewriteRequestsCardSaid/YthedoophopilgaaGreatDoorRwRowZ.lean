/- What the rewrite rows share: from the row's condition to the facts that the walks ask. -/
import Derived.Test.YthedoophopilgaaGreatDoorRows
import Derived.Test.YthedoophopilgaaGreatDoorCards
import Derived.Test.YthedoophopilgaaGreatDoorRwK
import Derived.ProofKit
import Derived.OpenShut
import Derived.ChangeOld
import Derived.SizedLaws
import Derived.LaidMore
import Derived.LaidHandle
import Derived.HandedShaped
import Derived.MakeChecks
import Derived.Shelf.Vars
import Derived.Stop.LaidErr
import Derived.Lib.LaidTab
set_option linter.unusedVariables false
namespace Go.Proofs.YthedoophopilgaaGreatDoor.RwRowZ
open Go.ChangeShapes Go.WideShapes Go.ChangeAt Go.RowKit Go.Proofs.YthedoophopilgaaGreatDoor.Oct Go.Proofs.YthedoophopilgaaGreatDoor.Rw
theorem own : ownKnob Tryz.prog.godebug = none := by kernel_rfl
theorem laidOut : laidOutB Tryz.prog = true := by kernel_rfl

section
variable {H : Type} {enc : TypeId × Value → H}
/-- The wrap of a row with a further condition, the world's shape kept. -/
theorem wrap {a : Assume} {C : Checked} {os : Os} {f : FuncId} {fn : Func} {s : ChangeSpec} {conds : List PathCond} {apart fresh handsOn again : Bool} {X : World → Array Value → Prop}
    (hX : ∀ (w w' : World) (args : Array Value), w.heap = w'.heap → X w args → X w' args)
    (own : ownKnob C.prog.godebug = none) (started : os.Started) (noInit : C.prog.inits.idxOf? f = none) (hfn : C.prog.funcs[f]? = some fn)
    (witness : ∃ (w : World) (tape : Tape) (i : Input), w.os = os ∧ (w.forCall tape i).Shaped C.prog ∧ i.vars = [] ∧ Input.okWide C.prog (w.forCall tape i) .any w.heap.size f i ∧
      ((s.pre enc C.prog fn conds apart (w.forCall tape i).memory i.args ∧ X (w.forCall tape i).memory i.args) ∧ sizedMet enc C.prog fn (OpenSpec.ofChange s) apart (w.forCall tape i).memory i.args) ∧ a.holds C.prog (lone (Frame.enter C.prog f i.args .normal) [] (w.forCall tape i)))
    (contract : ∀ (W : World) (base : Nat) (args : Array Value) (ds gs : List (DataW H)) (before : List MemPlace),
      (∀ (j : Nat) t v, fn.params[j]? = some t → args[j]? = some v → Value.okWide C.prog W .any base t v) →
      DataW.Whole enc C.prog fn.params.toList s.vars apart W args.toList ds gs before →
      (DataW.weightsEach C.prog (fn.params.toList ++ s.plain.varTypes C.prog) (ds ++ gs)).all (· ≤ reachBytes) = true → X W args → W.ShapedOpen C.prog →
      Calls C.prog f args W fun e W' => ∃ v, e = .returned v ∧ s.post enc C.prog fn apart fresh handsOn again W args v W') :
    ReturnsInHanded a C os f .any (fun w args => (s.pre enc C.prog fn conds apart w args ∧ X w args) ∧ sizedMet enc C.prog fn (OpenSpec.ofChange s) apart w args) (s.post enc C.prog fn apart fresh handsOn again) := by
  refine returnsInHanded_of_calls own started noInit witness ?_
  intro w tape i _ hsh _ hok hpre hholds
  obtain ⟨_, _, _, fn', hfn', _, _, _, _, hval⟩ := hok
  have e : fn' = fn := Option.some.inj (hfn'.symm.trans hfn)
  subst e
  obtain ⟨⟨⟨ds, gs, before, hw, hc⟩, hx⟩, hz⟩ := hpre
  have hw' := DataW.Whole.of_heap (w' := w.forCall tape i) (by rfl) hw
  refine (contract (w.forCall tape i) w.heap.size i.args ds gs before hval hw' (hz.weights hw) (hX _ _ _ (by rfl) hx) hsh).mono fun e W' ⟨v, he, hp⟩ => ?_
  subst he
  exact ChangeSpec.post_blind hp
end

def laid7 : List (String × DataW Unit) := Rows.rewriteRequestsRow.laid
/-- A start for the witness: the heap that the door's run leaves, and the library's pinned table laid. -/
noncomputable def laidStart (os : Os) : World :=
  let w := World.doorLaid Tryz.prog 94 os
  { w with heap := w.heap.modify 4 fun
      | .cells _ t frozen => .cells (Pinned.utf8FirstZ.map fun z : Nat => Value.int .u8 (z : Int)).toArray t frozen
      | o => o }
set_option maxRecDepth 100000 in
/-- It meets the condition. -/
theorem laidStart_met (os : Os) (args : Array Value) : laidMetH Tryz.prog laid7 ((laidStart os).forCall (fun _ _ => 0) ⟨#[], args, []⟩).memory :=
  laidMetH_of_parts3 (fuel := 8) (laidMet_of_run' 8 (by kernel_rfl) (by kernel_rfl)) (by kernel_rfl) (by kernel_rfl)
def hopsData : DataW Unit := .agg (hopN.map fun x => .lit (.string x.data.toList))
theorem hops_cells {W : World} {rest : List (String × DataW Unit)} (h : laidMet Tryz.prog (("steward/rewrite.hops", hopsData) :: rest) W) :
    ∀ i x, hopN[i]? = some x → W.cell? ⟨0, i, none⟩ = some (.string x) := by
  obtain ⟨ps, ⟨g', t', cs, fuel, p, q, hg', ht', hvar, hd, _, _⟩, _⟩ := h
  obtain rfl : 0 = g' := Option.some.inj ((show Tryz.prog.globalNamed "steward/rewrite.hops" = some 0 by kernel_rfl).symm.trans hg')
  obtain rfl : 61 = t' := Option.some.inj ((show (Tryz.prog.globals[0]?).map (·.type) = some 61 by kernel_rfl).symm.trans ht')
  intro i z hz
  have hi : i < 9 := (List.getElem?_eq_some_iff.1 hz).1
  obtain ⟨xs, m, _, hx, hl, hlen, hat⟩ := DataW.trod_array Tryz.underlying61 hd
  have hc2 : Tryz.prog.cellsOf 9 = 1 := by kernel_rfl
  have h1 := hat i hi
  rw [hc2, List.getElem?_eq_getElem (by omega)] at h1
  obtain ⟨s, hc1, he, _⟩ := DataW.trod_string Tryz.underlying9 h1
  have hxi : (xs.map (·.1))[i]? = some (.lit (.string z.data.toList)) := by
    have := congrArg Prod.fst hx
    simp only [hopsData, DataW.agg.injEq] at this
    rw [← this, List.getElem?_map, hz]; rfl
  rw [List.getElem?_map, List.getElem?_eq_getElem (by omega), Option.map_some, he] at hxi
  simp only [Option.some.injEq, DataW.lit.injEq, Lit.string.injEq] at hxi
  have hsz : s = z := Go.WideShapes.bytes_inj hxi
  have g0 : cs[i]? = some (.string s) := by
    have := congrArg (·[0]?) hc1
    simp [List.getElem?_drop] at this
    exact this
  have v0 := World.var?_cell (g := 0) (by kernel_rfl) hvar i
  rw [v0, ← hsz]
  simpa using g0
set_option maxRecDepth 100000 in
theorem laid7_pow : laid7.drop 2 = ("internal/strconv.uint64pow10", Lib.tabData .u64 Lib.pow10Tab) :: laid7.drop 3 := by kernel_rfl
set_option maxRecDepth 100000 in
theorem laid7_said : laid7.drop 4 = ("steward/start.reasons", saidData) :: laid7.drop 5 := by kernel_rfl
set_option maxRecDepth 100000 in
theorem laid7_hops : laid7.drop 5 = ("steward/rewrite.hops", hopsData) :: laid7.drop 6 := by kernel_rfl
theorem laidMet_drop {P : Program} {W : World} : ∀ (k : Nat) {l : List (String × DataW Unit)}, laidMet P l W → laidMet P (l.drop k) W
  | 0, _, h => h
  | k + 1, [], h => h
  | k + 1, _ :: _, h => laidMet_drop k (laidMet.tail h)
set_option maxRecDepth 100000 in
/-- What the condition gives the walks. -/
theorem env_of {W : World} (h : laidMetH Tryz.prog laid7 W) (hsh : W.ShapedOpen Tryz.prog) : HEnv W := by
  rw [MakeChecks.laidMetH_plain _ _ _ (by kernel_rfl)] at h
  have h2 := laidMet_drop 2 h
  have h4 := laidMet_drop 4 h
  have h5 := laidMet_drop 5 h
  rw [laid7_pow] at h2
  rw [laid7_said] at h4
  rw [laid7_hops] at h5
  exact ⟨⟨⟨Lib.tabIs_of_head (g := 3) (t := 123) (e := 115) (n := 20) (by kernel_rfl) (by kernel_rfl) Tryz.underlying123 Tryz.underlying115 (by kernel_rfl) (by kernel_rfl) h2⟩, said_cells (rest := laid7.drop 5) h4⟩, hops_cells (rest := laid7.drop 6) h5⟩
/-! ### Closed facts of the program, each by itself (together they are too much for one declaration) -/
set_option maxRecDepth 100000
theorem mapsRowed_ok : mapsRowed Tryz.prog = true := by kernel_rfl
theorem plainKeys_ok : (Rows.rewriteRequestsRow.plainKeys == Tryz.prog.plainKeys) = true := by kernel_rfl
theorem stopsHeard_ok : Tryz.prog.stopsHeard = true := by kernel_rfl
theorem mayEnter_ok : Tryz.prog.mayEnter = true := by kernel_rfl
theorem lifted_ok : (Rows.rewriteRequestsRow.lifted == Tryz.prog.liftsFinal) = true := by kernel_rfl
theorem make_ok : (Tryz.prog.make == some Rows.rewriteRequestsRow.make) = true := by kernel_rfl
theorem mainIs_ok : Tryz.prog.mainIs = some (Rows.rewriteRequestsCard.stood.harness.1, Rows.rewriteRequestsCard.stood.harness.2.toList) := by kernel_rfl
theorem looks_ok : false = Tryz.prog.looks [] := by kernel_rfl
end Go.Proofs.YthedoophopilgaaGreatDoor.RwRowZ
