/-
  No cell of these rows narrows 'for every input' (looked for: loops, veiled, ifaces, maps, wideKeys, modest, calm, conditions, laid).
  DERIVED. THE GIVEN ROWS OF THIS SEAT. 2 by the template 'for every input the law returns true; each argument reads behind the call as it read before'; 0 by the template 'total and deterministic' (their statements: YmwhawTotals.lean).
  GIVEN WITH THE SEED: the statements are not yours to turn. If you find one false, say at which input.
  Laid BY PROGRAM, IN A SANDBOX (cutbox-rows.mjs): the forced cells as the released guide's own fill.sh prints them over the translation f19691f10f187613… (all of the seat's roots in one cut). By AI agents, Wed Nov 11 2026. No macro, syntax, notation, axiom, sorry.
-/
import Derived.Test.YmwhawChecked
import GoSem.Claim
import GoSem.ClaimJoined
import GoSem.ClaimMapViews
import Derived.JoinedTies
import Derived.KernelRfl
namespace Go.Proofs.Ymwhaw
/- THE CELL 'sum', in the pinned program and in every row, IS THE sha256 OF THE DUMP (.gsa) THAT YmwhawProg.lean LOADS. Nothing in Lean hashes anything: it is a label: what it is worth is what the hold of that sum in a sandbox is worth. -/
noncomputable def Yawv.pinned : Pinned := { name := "ymwhaw", sum := "f19691f10f187613c4fa0954f5e0d785c9a9be083b8aa2286153e6b329d077fa", checked := Yawv.checked }
namespace Rows
def none {H : Type} : Left H := { results := [], args := [] }

/-- 'semver.LawS930013QAAWhole': WHATEVER THE INPUT: true; the input reads as it did. -/
def lawS930013QAAWholeSpec : ChangeSpec := { name := "lawS930013QAAWhole", fn := fun _ => fun
  | [d1, d2] => { results := [.lit (.bool true)], args := [d1, d2] }
  | _ => none }
def lawS930013QAAWholeRow : OpenClaim := { program := "ymwhaw", sum := "f19691f10f187613c4fa0954f5e0d785c9a9be083b8aa2286153e6b329d077fa", func := "example.com/own/semver.LawS930013QAAWhole", spec := "lawS930013QAAWhole", apart := false }
def LawS930013QAAWholeSaid : Prop := lawS930013QAAWholeRow.holds Yawv.pinned (OpenSpec.ofChange lawS930013QAAWholeSpec)

/-- ITS FALSE NEIGHBOUR: 'it returns false'. Refute it at one input. -/
def lawS930013QAAWholeWrong : ChangeSpec := { name := "lawS930013QAAWhole", fn := fun _ => fun
  | [d1, d2] => { results := [.lit (.bool false)], args := [d1, d2] }
  | _ => none }
def LawS930013QAAWholeWrongFalsely : Prop := lawS930013QAAWholeRow.holds Yawv.pinned (OpenSpec.ofChange lawS930013QAAWholeWrong)

/-- 'semver.LawS930013QABWhole': WHATEVER THE INPUT: true; the input reads as it did. -/
def lawS930013QABWholeSpec : ChangeSpec := { name := "lawS930013QABWhole", fn := fun _ => fun
  | [d1, d2] => { results := [.lit (.bool true)], args := [d1, d2] }
  | _ => none }
def lawS930013QABWholeRow : OpenClaim := { program := "ymwhaw", sum := "f19691f10f187613c4fa0954f5e0d785c9a9be083b8aa2286153e6b329d077fa", func := "example.com/own/semver.LawS930013QABWhole", spec := "lawS930013QABWhole", apart := false }
def LawS930013QABWholeSaid : Prop := lawS930013QABWholeRow.holds Yawv.pinned (OpenSpec.ofChange lawS930013QABWholeSpec)

/-- ITS FALSE NEIGHBOUR: 'it returns false'. Refute it at one input. -/
def lawS930013QABWholeWrong : ChangeSpec := { name := "lawS930013QABWhole", fn := fun _ => fun
  | [d1, d2] => { results := [.lit (.bool false)], args := [d1, d2] }
  | _ => none }
def LawS930013QABWholeWrongFalsely : Prop := lawS930013QABWholeRow.holds Yawv.pinned (OpenSpec.ofChange lawS930013QABWholeWrong)

end Rows
end Go.Proofs.Ymwhaw
