/- What the report rows share: from the row's condition to the facts that the walks ask. -/
import Derived.Test.YtphbieaoedbmpaaDoorRows
import Derived.Test.YtphbieaoedbmpaaDoorCards
import Derived.Test.YtphbieaoedbmpaaDoorRpP
import Derived.ProofKit
import Derived.OpenShut
import Derived.ChangeOld
import Derived.SizedLaws
import Derived.LaidMore
import Derived.LaidHandle
import Derived.HandedShaped
import Derived.MakeChecks
import Derived.Shelf.Vars
import Derived.Stop.LaidErr
import Derived.Lib.LaidTab
set_option linter.unusedVariables false
namespace Go.Proofs.YtphbieaoedbmpaaDoor.RpRow
open Go.ChangeShapes Go.WideShapes Go.ChangeAt Go.RowKit Go.Proofs.YtphbieaoedbmpaaDoor.Oct Go.Proofs.YtphbieaoedbmpaaDoor.Rp
theorem own : ownKnob Tryd.prog.godebug = none := by kernel_rfl
theorem laidOut : laidOutB Tryd.prog = true := by kernel_rfl

section
variable {H : Type} {enc : TypeId × Value → H}
/-- The wrap of a row with a further condition, the world's shape kept. -/
theorem wrap {a : Assume} {C : Checked} {os : Os} {f : FuncId} {fn : Func} {s : ChangeSpec} {conds : List PathCond} {apart fresh handsOn again : Bool} {X : World → Array Value → Prop}
    (hX : ∀ (w w' : World) (args : Array Value), w.heap = w'.heap → X w args → X w' args)
    (own : ownKnob C.prog.godebug = none) (started : os.Started) (noInit : C.prog.inits.idxOf? f = none) (hfn : C.prog.funcs[f]? = some fn)
    (witness : ∃ (w : World) (tape : Tape) (i : Input), w.os = os ∧ (w.forCall tape i).Shaped C.prog ∧ i.vars = [] ∧ Input.okWide C.prog (w.forCall tape i) .any w.heap.size f i ∧
      ((s.pre enc C.prog fn conds apart (w.forCall tape i).memory i.args ∧ X (w.forCall tape i).memory i.args) ∧ sizedMet enc C.prog fn (OpenSpec.ofChange s) apart (w.forCall tape i).memory i.args) ∧ a.holds C.prog (lone (Frame.enter C.prog f i.args .normal) [] (w.forCall tape i)))
    (contract : ∀ (W : World) (base : Nat) (args : Array Value) (ds gs : List (DataW H)) (before : List MemPlace),
      (∀ (j : Nat) t v, fn.params[j]? = some t → args[j]? = some v → Value.okWide C.prog W .any base t v) →
      DataW.Whole enc C.prog fn.params.toList s.vars apart W args.toList ds gs before →
      (DataW.weightsEach C.prog (fn.params.toList ++ s.plain.varTypes C.prog) (ds ++ gs)).all (· ≤ reachBytes) = true → X W args → W.ShapedOpen C.prog →
      Calls C.prog f args W fun e W' => ∃ v, e = .returned v ∧ s.post enc C.prog fn apart fresh handsOn again W args v W') :
    ReturnsInHanded a C os f .any (fun w args => (s.pre enc C.prog fn conds apart w args ∧ X w args) ∧ sizedMet enc C.prog fn (OpenSpec.ofChange s) apart w args) (s.post enc C.prog fn apart fresh handsOn again) := by
  refine returnsInHanded_of_calls own started noInit witness ?_
  intro w tape i _ hsh _ hok hpre hholds
  obtain ⟨_, _, _, fn', hfn', _, _, _, _, hval⟩ := hok
  have e : fn' = fn := Option.some.inj (hfn'.symm.trans hfn)
  subst e
  obtain ⟨⟨⟨ds, gs, before, hw, hc⟩, hx⟩, hz⟩ := hpre
  have hw' := DataW.Whole.of_heap (w' := w.forCall tape i) (by rfl) hw
  refine (contract (w.forCall tape i) w.heap.size i.args ds gs before hval hw' (hz.weights hw) (hX _ _ _ (by rfl) hx) hsh).mono fun e W' ⟨v, he, hp⟩ => ?_
  subst he
  exact ChangeSpec.post_blind hp
end

def laid7 : List (String × DataW Unit) := Rows.reportCountsRow.laid
/-- A start for the witness: the heap that the door's run leaves. -/
noncomputable def laidStart (os : Os) : World := World.doorLaid Tryd.prog 200 os
set_option maxRecDepth 100000 in
/-- It meets the condition. -/
theorem laidStart_met (os : Os) (args : Array Value) : laidMetH Tryd.prog laid7 ((laidStart os).forCall (fun _ _ => 0) ⟨#[], args, []⟩).memory :=
  laidMetH_of_parts3 (fuel := 8) (laidMet_of_run' 8 (by kernel_rfl) (by kernel_rfl)) (by kernel_rfl) (by kernel_rfl)
set_option maxRecDepth 100000 in
theorem laid7_pow : laid7.drop 2 = ("internal/strconv.uint64pow10", Lib.tabData .u64 Lib.pow10Tab) :: laid7.drop 3 := by kernel_rfl
set_option maxRecDepth 100000 in
theorem laid7_words : laid7.drop 3 = ("steward/report.words", wordData) :: laid7.drop 4 := by kernel_rfl
theorem laidMet_drop {P : Program} {W : World} : ∀ (k : Nat) {l : List (String × DataW Unit)}, laidMet P l W → laidMet P (l.drop k) W
  | 0, _, h => h
  | k + 1, [], h => h
  | k + 1, _ :: _, h => laidMet_drop k (laidMet.tail h)
set_option maxRecDepth 100000 in
/-- What the condition gives the walks. -/
theorem env_of {W : World} (h : laidMetH Tryd.prog laid7 W) (hsh : W.ShapedOpen Tryd.prog) : WEnv W := by
  rw [MakeChecks.laidMetH_plain _ _ _ (by kernel_rfl)] at h
  have h2 := laidMet_drop 2 h
  have h3 := laidMet_drop 3 h
  rw [laid7_pow] at h2
  rw [laid7_words] at h3
  exact ⟨⟨Lib.tabIs_of_head (g := 2) (t := 114) (e := 95) (n := 20) (by kernel_rfl) (by kernel_rfl) Tryd.underlying114 Tryd.underlying95 (by kernel_rfl) (by kernel_rfl) h2⟩, word_cells (rest := laid7.drop 4) h3⟩
/-! ### Closed facts of the program, each by itself (together they are too much for one declaration) -/
set_option maxRecDepth 100000
theorem mapsRowed_ok : mapsRowed Tryd.prog = true := by kernel_rfl
theorem plainKeys_ok : (Rows.reportCountsRow.plainKeys == Tryd.prog.plainKeys) = true := by kernel_rfl
theorem stopsHeard_ok : Tryd.prog.stopsHeard = true := by kernel_rfl
theorem mayEnter_ok : Tryd.prog.mayEnter = true := by kernel_rfl
theorem lifted_ok : (Rows.reportCountsRow.lifted == Tryd.prog.liftsFinal) = true := by kernel_rfl
theorem make_ok : (Tryd.prog.make == some Rows.reportCountsRow.make) = true := by kernel_rfl
theorem mainIs_ok : Tryd.prog.mainIs = some (Rows.reportCountsCard.stood.harness.1, Rows.reportCountsCard.stood.harness.2.toList) := by kernel_rfl
theorem looks_ok : false = Tryd.prog.looks [] := by kernel_rfl
end Go.Proofs.YtphbieaoedbmpaaDoor.RpRow
