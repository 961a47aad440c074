/-
  No cell of these rows narrows 'for every input' (looked for: loops, veiled, ifaces, maps, wideKeys, modest, calm, conditions, laid).
  DERIVED. THE GIVEN ROWS OF THIS SEAT. 2 by the template 'for every input the law returns true; each argument reads behind the call as it read before'; 0 by the template 'total and deterministic' (their statements: YmwhavTotals.lean).
  GIVEN WITH THE SEED: the statements are not yours to turn. If you find one false, say at which input.
  Laid BY PROGRAM, IN A SANDBOX (cutbox-rows.mjs): the forced cells as the released guide's own fill.sh prints them over the translation ed363fab695771b2… (all of the seat's roots in one cut). By AI agents, Wed Nov 11 2026. No macro, syntax, notation, axiom, sorry.
-/
import Derived.Test.YmwhavChecked
import GoSem.Claim
import GoSem.ClaimJoined
import GoSem.ClaimMapViews
import Derived.JoinedTies
import Derived.KernelRfl
namespace Go.Proofs.Ymwhav
/- THE CELL 'sum', in the pinned program and in every row, IS THE sha256 OF THE DUMP (.gsa) THAT YmwhavProg.lean LOADS. Nothing in Lean hashes anything: it is a label: what it is worth is what the hold of that sum in a sandbox is worth. -/
noncomputable def Yavv.pinned : Pinned := { name := "ymwhav", sum := "ed363fab695771b22c7cc3c083da65c5a481289edbb2d1350c3776ac5e22a24c", checked := Yavv.checked }
namespace Rows
def none {H : Type} : Left H := { results := [], args := [] }

/-- 'ini.LawS930012QAAWhole': WHATEVER THE INPUT: true; the input reads as it did. -/
def lawS930012QAAWholeSpec : ChangeSpec := { name := "lawS930012QAAWhole", fn := fun _ => fun
  | [d] => { results := [.lit (.bool true)], args := [d] }
  | _ => none }
def lawS930012QAAWholeRow : OpenClaim := { program := "ymwhav", sum := "ed363fab695771b22c7cc3c083da65c5a481289edbb2d1350c3776ac5e22a24c", func := "example.com/own/ini.LawS930012QAAWhole", spec := "lawS930012QAAWhole", apart := false }
def LawS930012QAAWholeSaid : Prop := lawS930012QAAWholeRow.holds Yavv.pinned (OpenSpec.ofChange lawS930012QAAWholeSpec)

/-- ITS FALSE NEIGHBOUR: 'it returns false'. Refute it at one input. -/
def lawS930012QAAWholeWrong : ChangeSpec := { name := "lawS930012QAAWhole", fn := fun _ => fun
  | [d] => { results := [.lit (.bool false)], args := [d] }
  | _ => none }
def LawS930012QAAWholeWrongFalsely : Prop := lawS930012QAAWholeRow.holds Yavv.pinned (OpenSpec.ofChange lawS930012QAAWholeWrong)

/-- 'ini.LawS930012QABWhole': WHATEVER THE INPUT: true; the input reads as it did. -/
def lawS930012QABWholeSpec : ChangeSpec := { name := "lawS930012QABWhole", fn := fun _ => fun
  | [d1, d2, d3] => { results := [.lit (.bool true)], args := [d1, d2, d3] }
  | _ => none }
def lawS930012QABWholeRow : OpenClaim := { program := "ymwhav", sum := "ed363fab695771b22c7cc3c083da65c5a481289edbb2d1350c3776ac5e22a24c", func := "example.com/own/ini.LawS930012QABWhole", spec := "lawS930012QABWhole", apart := false }
def LawS930012QABWholeSaid : Prop := lawS930012QABWholeRow.holds Yavv.pinned (OpenSpec.ofChange lawS930012QABWholeSpec)

/-- ITS FALSE NEIGHBOUR: 'it returns false'. Refute it at one input. -/
def lawS930012QABWholeWrong : ChangeSpec := { name := "lawS930012QABWhole", fn := fun _ => fun
  | [d1, d2, d3] => { results := [.lit (.bool false)], args := [d1, d2, d3] }
  | _ => none }
def LawS930012QABWholeWrongFalsely : Prop := lawS930012QABWholeRow.holds Yavv.pinned (OpenSpec.ofChange lawS930012QABWholeWrong)

end Rows
end Go.Proofs.Ymwhav
