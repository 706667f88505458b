/-
  No cell of these rows narrows 'for every input' (looked for: loops, veiled, ifaces, maps, wideKeys, modest, calm, conditions, laid).
  DERIVED. THE GIVEN ROWS OF THIS SEAT. 4 by the template 'for every input the law returns true; each argument reads behind the call as it read before'; 0 by the template 'total and deterministic' (their statements: YtclngmjfhlindaaTotals.lean).
  GIVEN WITH THE SEED: the statements are not yours to turn. If you find one false, say at which input.
  Laid BY PROGRAM, IN A SANDBOX (cutbox-rows.mjs): the forced cells as the released guide's own fill.sh prints them over the translation 8e87d2e3797be1b7… (all of the seat's roots in one cut). By AI agents, Wed Nov 11 2026. No macro, syntax, notation, axiom, sorry.
-/
import Derived.Test.YtclngmjfhlindaaChecked
import GoSem.Claim
import GoSem.ClaimJoined
import GoSem.ClaimMapViews
import Derived.JoinedTies
import Derived.KernelRfl
namespace Go.Proofs.Ytclngmjfhlindaa
/- THE CELL 'sum', in the pinned program and in every row, IS THE sha256 OF THE DUMP (.gsa) THAT YtclngmjfhlindaaProg.lean LOADS. Nothing in Lean hashes anything: it is a label: what it is worth is what the hold of that sum in a sandbox is worth. -/
noncomputable def Try.pinned : Pinned := { name := "ytclngmjfhlindaa", sum := "8e87d2e3797be1b7206811f208afdcb97180aff9be3f03efdee36cb24682938f", checked := Try.checked }
namespace Rows
def none {H : Type} : Left H := { results := [], args := [] }

/-- 'stewardlaw18.MaglevBuilds': WHATEVER THE INPUT: true; the input reads as it did. -/
def maglevBuildsSpec : ChangeSpec := { name := "maglevBuilds", fn := fun _ => fun
  | [d1, d2, d3] => { results := [.lit (.bool true)], args := [d1, d2, d3] }
  | _ => none }
def maglevBuildsRow : OpenClaim := { program := "ytclngmjfhlindaa", sum := "8e87d2e3797be1b7206811f208afdcb97180aff9be3f03efdee36cb24682938f", func := "steward/stewardlaw18.MaglevBuilds", spec := "maglevBuilds", unfollowed := true, recurses := true, apart := false }
def MaglevBuildsSaid : Prop := maglevBuildsRow.holds Try.pinned (OpenSpec.ofChange maglevBuildsSpec)

/-- ITS FALSE NEIGHBOUR: 'it returns false'. Refute it at one input. -/
def maglevBuildsWrong : ChangeSpec := { name := "maglevBuilds", fn := fun _ => fun
  | [d1, d2, d3] => { results := [.lit (.bool false)], args := [d1, d2, d3] }
  | _ => none }
def MaglevBuildsWrongFalsely : Prop := maglevBuildsRow.holds Try.pinned (OpenSpec.ofChange maglevBuildsWrong)

/-- 'stewardlaw18.MaglevShares': WHATEVER THE INPUT: true; the input reads as it did. -/
def maglevSharesSpec : ChangeSpec := { name := "maglevShares", fn := fun _ => fun
  | [d1, d2, d3] => { results := [.lit (.bool true)], args := [d1, d2, d3] }
  | _ => none }
def maglevSharesRow : OpenClaim := { program := "ytclngmjfhlindaa", sum := "8e87d2e3797be1b7206811f208afdcb97180aff9be3f03efdee36cb24682938f", func := "steward/stewardlaw18.MaglevShares", spec := "maglevShares", unfollowed := true, recurses := true, apart := false }
def MaglevSharesSaid : Prop := maglevSharesRow.holds Try.pinned (OpenSpec.ofChange maglevSharesSpec)

/-- ITS FALSE NEIGHBOUR: 'it returns false'. Refute it at one input. -/
def maglevSharesWrong : ChangeSpec := { name := "maglevShares", fn := fun _ => fun
  | [d1, d2, d3] => { results := [.lit (.bool false)], args := [d1, d2, d3] }
  | _ => none }
def MaglevSharesWrongFalsely : Prop := maglevSharesRow.holds Try.pinned (OpenSpec.ofChange maglevSharesWrong)

/-- 'stewardlaw18.MaglevOrder': WHATEVER THE INPUT: true; the input reads as it did. -/
def maglevOrderSpec : ChangeSpec := { name := "maglevOrder", fn := fun _ => fun
  | [d1, d2, d3] => { results := [.lit (.bool true)], args := [d1, d2, d3] }
  | _ => none }
def maglevOrderRow : OpenClaim := { program := "ytclngmjfhlindaa", sum := "8e87d2e3797be1b7206811f208afdcb97180aff9be3f03efdee36cb24682938f", func := "steward/stewardlaw18.MaglevOrder", spec := "maglevOrder", unfollowed := true, recurses := true, apart := false }
def MaglevOrderSaid : Prop := maglevOrderRow.holds Try.pinned (OpenSpec.ofChange maglevOrderSpec)

/-- ITS FALSE NEIGHBOUR: 'it returns false'. Refute it at one input. -/
def maglevOrderWrong : ChangeSpec := { name := "maglevOrder", fn := fun _ => fun
  | [d1, d2, d3] => { results := [.lit (.bool false)], args := [d1, d2, d3] }
  | _ => none }
def MaglevOrderWrongFalsely : Prop := maglevOrderRow.holds Try.pinned (OpenSpec.ofChange maglevOrderWrong)

/-- 'stewardlaw18.MaglevPicks': WHATEVER THE INPUT: true; the input reads as it did. -/
def maglevPicksSpec : ChangeSpec := { name := "maglevPicks", fn := fun _ => fun
  | [d1, d2, d3] => { results := [.lit (.bool true)], args := [d1, d2, d3] }
  | _ => none }
def maglevPicksRow : OpenClaim := { program := "ytclngmjfhlindaa", sum := "8e87d2e3797be1b7206811f208afdcb97180aff9be3f03efdee36cb24682938f", func := "steward/stewardlaw18.MaglevPicks", spec := "maglevPicks", unfollowed := true, recurses := true, apart := false }
def MaglevPicksSaid : Prop := maglevPicksRow.holds Try.pinned (OpenSpec.ofChange maglevPicksSpec)

/-- ITS FALSE NEIGHBOUR: 'it returns false'. Refute it at one input. -/
def maglevPicksWrong : ChangeSpec := { name := "maglevPicks", fn := fun _ => fun
  | [d1, d2, d3] => { results := [.lit (.bool false)], args := [d1, d2, d3] }
  | _ => none }
def MaglevPicksWrongFalsely : Prop := maglevPicksRow.holds Try.pinned (OpenSpec.ofChange maglevPicksWrong)

/- THE SECOND FORM. 'bulk': how many values and letters a reading holds, each counted each time it is reached (what is shared counts as often as it is met; a slice's spare places count too). A statement '..UptoSaid' is the law's where the arguments, and the package variables that the reading takes, are together of bulk at most 1048576: NARROWER than '..Said'. Prove '..Said' where nothing that the law and all that it calls make is longer than what came in: it says more and counts as full. Else prove '..UptoSaid'. A law counts once. -/
mutual
def uptoBulk {H : Type} : DataW H → Nat
  | .lit (.string bytes) => bytes.length + 1
  | .lit _ => 1
  | .nil => 1
  | .ptr d => uptoBulk d + 1
  | .slice elems spare => uptoBulkAll elems + uptoBulkAll spare + 1
  | .agg parts => uptoBulkAll parts + 1
  | .iface _ d => uptoBulk d + 1
  | .map entries => uptoBulkEntries entries + 1
  | .held _ => 1
def uptoBulkAll {H : Type} : List (DataW H) → Nat
  | [] => 0
  | d :: r => uptoBulk d + uptoBulkAll r
def uptoBulkEntries {H : Type} : List (Lit × DataW H) → Nat
  | [] => 0
  | x :: r => uptoBulkEntry x + uptoBulkEntries r
def uptoBulkEntry {H : Type} : Lit × DataW H → Nat
  | (.string bytes, d) => bytes.length + uptoBulk d + 1
  | (_, d) => uptoBulk d + 1
 end
def uptoSmall : (H : Type) → List (DataW H) → Bool := fun _ ds => decide (uptoBulkAll ds ≤ 1048576)
def OpenSpec.upto (s : _root_.Go.ChangeSpec) : _root_.Go.OpenSpec := { _root_.Go.OpenSpec.ofChange s with cond := some uptoSmall }

/-- 'stewardlaw18.MaglevBuilds', WHERE WHAT IT READS IS OF BULK AT MOST 1048576: true; the input reads as it did. -/
def maglevBuildsUptoRow : OpenClaim := { program := "ytclngmjfhlindaa", sum := "8e87d2e3797be1b7206811f208afdcb97180aff9be3f03efdee36cb24682938f", func := "steward/stewardlaw18.MaglevBuilds", spec := "maglevBuilds", unfollowed := true, recurses := true, apart := false, narrowed := true }
def MaglevBuildsUptoSaid : Prop := maglevBuildsUptoRow.holds Try.pinned (OpenSpec.upto maglevBuildsSpec)

/-- 'stewardlaw18.MaglevShares', WHERE WHAT IT READS IS OF BULK AT MOST 1048576: true; the input reads as it did. -/
def maglevSharesUptoRow : OpenClaim := { program := "ytclngmjfhlindaa", sum := "8e87d2e3797be1b7206811f208afdcb97180aff9be3f03efdee36cb24682938f", func := "steward/stewardlaw18.MaglevShares", spec := "maglevShares", unfollowed := true, recurses := true, apart := false, narrowed := true }
def MaglevSharesUptoSaid : Prop := maglevSharesUptoRow.holds Try.pinned (OpenSpec.upto maglevSharesSpec)

/-- 'stewardlaw18.MaglevOrder', WHERE WHAT IT READS IS OF BULK AT MOST 1048576: true; the input reads as it did. -/
def maglevOrderUptoRow : OpenClaim := { program := "ytclngmjfhlindaa", sum := "8e87d2e3797be1b7206811f208afdcb97180aff9be3f03efdee36cb24682938f", func := "steward/stewardlaw18.MaglevOrder", spec := "maglevOrder", unfollowed := true, recurses := true, apart := false, narrowed := true }
def MaglevOrderUptoSaid : Prop := maglevOrderUptoRow.holds Try.pinned (OpenSpec.upto maglevOrderSpec)

/-- 'stewardlaw18.MaglevPicks', WHERE WHAT IT READS IS OF BULK AT MOST 1048576: true; the input reads as it did. -/
def maglevPicksUptoRow : OpenClaim := { program := "ytclngmjfhlindaa", sum := "8e87d2e3797be1b7206811f208afdcb97180aff9be3f03efdee36cb24682938f", func := "steward/stewardlaw18.MaglevPicks", spec := "maglevPicks", unfollowed := true, recurses := true, apart := false, narrowed := true }
def MaglevPicksUptoSaid : Prop := maglevPicksUptoRow.holds Try.pinned (OpenSpec.upto maglevPicksSpec)

end Rows
end Go.Proofs.Ytclngmjfhlindaa
