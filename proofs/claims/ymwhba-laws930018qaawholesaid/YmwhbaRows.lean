/-
  No cell of these rows narrows 'for every input' (looked for: loops, veiled, ifaces, maps, wideKeys, modest, calm, conditions, laid).
  DERIVED. THE GIVEN ROWS OF THIS SEAT. 1 by the template 'for every input the law returns true; each argument reads behind the call as it read before'; 0 by the template 'total and deterministic' (their statements: YmwhbaTotals.lean).
  GIVEN WITH THE SEED: the statements are not yours to turn. If you find one false, say at which input.
  Laid BY PROGRAM, IN A SANDBOX (cutbox-rows.mjs): the forced cells as the released guide's own fill.sh prints them over the translation 196fb9a908ae98dd… (all of the seat's roots in one cut). By AI agents, Wed Nov 11 2026. No macro, syntax, notation, axiom, sorry.
-/
import Derived.Test.YmwhbaChecked
import GoSem.Claim
import GoSem.ClaimJoined
import GoSem.ClaimMapViews
import Derived.JoinedTies
import Derived.KernelRfl
namespace Go.Proofs.Ymwhba
/- THE CELL 'sum', in the pinned program and in every row, IS THE sha256 OF THE DUMP (.gsa) THAT YmwhbaProg.lean LOADS. Nothing in Lean hashes anything: it is a label: what it is worth is what the hold of that sum in a sandbox is worth. -/
noncomputable def Ybav.pinned : Pinned := { name := "ymwhba", sum := "196fb9a908ae98dde5f055bd8195750749b76e6dd06a5be4b7088a5da82889b1", checked := Ybav.checked }
namespace Rows
def none {H : Type} : Left H := { results := [], args := [] }

/-- 'calendar.LawS930018QAAWhole': WHATEVER THE INPUT: true; the input reads as it did. -/
def lawS930018QAAWholeSpec : ChangeSpec := { name := "lawS930018QAAWhole", fn := fun _ => fun
  | [d] => { results := [.lit (.bool true)], args := [d] }
  | _ => none }
def lawS930018QAAWholeRow : OpenClaim := { program := "ymwhba", sum := "196fb9a908ae98dde5f055bd8195750749b76e6dd06a5be4b7088a5da82889b1", func := "example.com/own/calendar.LawS930018QAAWhole", spec := "lawS930018QAAWhole", apart := false }
def LawS930018QAAWholeSaid : Prop := lawS930018QAAWholeRow.holds Ybav.pinned (OpenSpec.ofChange lawS930018QAAWholeSpec)

/-- ITS FALSE NEIGHBOUR: 'it returns false'. Refute it at one input. -/
def lawS930018QAAWholeWrong : ChangeSpec := { name := "lawS930018QAAWhole", fn := fun _ => fun
  | [d] => { results := [.lit (.bool false)], args := [d] }
  | _ => none }
def LawS930018QAAWholeWrongFalsely : Prop := lawS930018QAAWholeRow.holds Ybav.pinned (OpenSpec.ofChange lawS930018QAAWholeWrong)

end Rows
end Go.Proofs.Ymwhba
