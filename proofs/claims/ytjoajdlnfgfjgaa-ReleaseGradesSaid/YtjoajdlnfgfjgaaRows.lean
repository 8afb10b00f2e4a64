/-
  No cell of these rows narrows 'for every input' (looked for: loops, veiled, ifaces, maps, wideKeys, modest, calm, conditions, laid).
  DERIVED. THE GIVEN ROWS OF THIS SEAT. 2 by the template 'for every input the law returns true; each argument reads behind the call as it read before'; 0 by the template 'total and deterministic' (their statements: YtjoajdlnfgfjgaaTotals.lean).
  GIVEN WITH THE SEED: the statements are not yours to turn. If you find one false, say at which input.
  Laid BY PROGRAM, IN A SANDBOX (cutbox-rows.mjs): the forced cells as the released guide's own fill.sh prints them over the translation 18184171347708d0… (all of the seat's roots in one cut). By AI agents, Wed Nov 11 2026. No macro, syntax, notation, axiom, sorry.
-/
import Derived.Test.YtjoajdlnfgfjgaaChecked
import GoSem.Claim
import GoSem.ClaimJoined
import GoSem.ClaimMapViews
import Derived.JoinedTies
import Derived.KernelRfl
namespace Go.Proofs.Ytjoajdlnfgfjgaa
/- THE CELL 'sum', in the pinned program and in every row, IS THE sha256 OF THE DUMP (.gsa) THAT YtjoajdlnfgfjgaaProg.lean LOADS. Nothing in Lean hashes anything: it is a label: what it is worth is what the hold of that sum in a sandbox is worth. -/
noncomputable def Try.pinned : Pinned := { name := "ytjoajdlnfgfjgaa", sum := "18184171347708d00c963c3da6575dda2f32ad9a683f9008be4bbf35f5908879", checked := Try.checked }
namespace Rows
def none {H : Type} : Left H := { results := [], args := [] }

/-- 'observatorylaw44.ReleaseDifferences': WHATEVER THE INPUT: true; the input reads as it did. -/
def releaseDifferencesSpec : ChangeSpec := { name := "releaseDifferences", fn := fun _ => fun
  | [d1, d2] => { results := [.lit (.bool true)], args := [d1, d2] }
  | _ => none }
def releaseDifferencesRow : OpenClaim := { program := "ytjoajdlnfgfjgaa", sum := "18184171347708d00c963c3da6575dda2f32ad9a683f9008be4bbf35f5908879", func := "observatory/observatorylaw44.ReleaseDifferences", spec := "releaseDifferences", unfollowed := true, recurses := true, plainKeys := false, apart := false }
def ReleaseDifferencesSaid : Prop := releaseDifferencesRow.holds Try.pinned (OpenSpec.ofChange releaseDifferencesSpec)

/-- ITS FALSE NEIGHBOUR: 'it returns false'. Refute it at one input. -/
def releaseDifferencesWrong : ChangeSpec := { name := "releaseDifferences", fn := fun _ => fun
  | [d1, d2] => { results := [.lit (.bool false)], args := [d1, d2] }
  | _ => none }
def ReleaseDifferencesWrongFalsely : Prop := releaseDifferencesRow.holds Try.pinned (OpenSpec.ofChange releaseDifferencesWrong)

/-- 'observatorylaw44.ReleaseGrades': WHATEVER THE INPUT: true; the input reads as it did. -/
def releaseGradesSpec : ChangeSpec := { name := "releaseGrades", fn := fun _ => fun
  | [d1, d2, d3, d4] => { results := [.lit (.bool true)], args := [d1, d2, d3, d4] }
  | _ => none }
def releaseGradesRow : OpenClaim := { program := "ytjoajdlnfgfjgaa", sum := "18184171347708d00c963c3da6575dda2f32ad9a683f9008be4bbf35f5908879", func := "observatory/observatorylaw44.ReleaseGrades", spec := "releaseGrades", unfollowed := true, recurses := true, plainKeys := false, apart := false }
def ReleaseGradesSaid : Prop := releaseGradesRow.holds Try.pinned (OpenSpec.ofChange releaseGradesSpec)

/-- ITS FALSE NEIGHBOUR: 'it returns false'. Refute it at one input. -/
def releaseGradesWrong : ChangeSpec := { name := "releaseGrades", fn := fun _ => fun
  | [d1, d2, d3, d4] => { results := [.lit (.bool false)], args := [d1, d2, d3, d4] }
  | _ => none }
def ReleaseGradesWrongFalsely : Prop := releaseGradesRow.holds Try.pinned (OpenSpec.ofChange releaseGradesWrong)

/- THE SECOND FORM. 'bulk': how many values and letters a reading holds, each counted each time it is reached (what is shared counts as often as it is met; a slice's spare places count too). A statement '..UptoSaid' is the law's where the arguments, and the package variables that the reading takes, are together of bulk at most 1048576: NARROWER than '..Said'. Prove '..Said' where nothing that the law and all that it calls make is longer than what came in: it says more and counts as full. Else prove '..UptoSaid'. A law counts once. -/
mutual
def uptoBulk {H : Type} : DataW H → Nat
  | .lit (.string bytes) => bytes.length + 1
  | .lit _ => 1
  | .nil => 1
  | .ptr d => uptoBulk d + 1
  | .slice elems spare => uptoBulkAll elems + uptoBulkAll spare + 1
  | .agg parts => uptoBulkAll parts + 1
  | .iface _ d => uptoBulk d + 1
  | .map entries => uptoBulkEntries entries + 1
  | .held _ => 1
def uptoBulkAll {H : Type} : List (DataW H) → Nat
  | [] => 0
  | d :: r => uptoBulk d + uptoBulkAll r
def uptoBulkEntries {H : Type} : List (Lit × DataW H) → Nat
  | [] => 0
  | x :: r => uptoBulkEntry x + uptoBulkEntries r
def uptoBulkEntry {H : Type} : Lit × DataW H → Nat
  | (.string bytes, d) => bytes.length + uptoBulk d + 1
  | (_, d) => uptoBulk d + 1
 end
def uptoSmall : (H : Type) → List (DataW H) → Bool := fun _ ds => decide (uptoBulkAll ds ≤ 1048576)
def OpenSpec.upto (s : _root_.Go.ChangeSpec) : _root_.Go.OpenSpec := { _root_.Go.OpenSpec.ofChange s with cond := some uptoSmall }

/-- 'observatorylaw44.ReleaseDifferences', WHERE WHAT IT READS IS OF BULK AT MOST 1048576: true; the input reads as it did. -/
def releaseDifferencesUptoRow : OpenClaim := { program := "ytjoajdlnfgfjgaa", sum := "18184171347708d00c963c3da6575dda2f32ad9a683f9008be4bbf35f5908879", func := "observatory/observatorylaw44.ReleaseDifferences", spec := "releaseDifferences", unfollowed := true, recurses := true, plainKeys := false, apart := false, narrowed := true }
def ReleaseDifferencesUptoSaid : Prop := releaseDifferencesUptoRow.holds Try.pinned (OpenSpec.upto releaseDifferencesSpec)

/-- 'observatorylaw44.ReleaseGrades', WHERE WHAT IT READS IS OF BULK AT MOST 1048576: true; the input reads as it did. -/
def releaseGradesUptoRow : OpenClaim := { program := "ytjoajdlnfgfjgaa", sum := "18184171347708d00c963c3da6575dda2f32ad9a683f9008be4bbf35f5908879", func := "observatory/observatorylaw44.ReleaseGrades", spec := "releaseGrades", unfollowed := true, recurses := true, plainKeys := false, apart := false, narrowed := true }
def ReleaseGradesUptoSaid : Prop := releaseGradesUptoRow.holds Try.pinned (OpenSpec.upto releaseGradesSpec)

end Rows
end Go.Proofs.Ytjoajdlnfgfjgaa
