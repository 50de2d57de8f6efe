/-
  No cell of these rows narrows 'for every input' (looked for: loops, veiled, ifaces, maps, wideKeys, modest, calm, conditions, laid).
  DERIVED. THE GIVEN ROWS OF THIS SEAT. 8 by the template 'for every input the law returns true; each argument reads behind the call as it read before'; 0 by the template 'total and deterministic' (their statements: Qxb6500884aTotals.lean).
  GIVEN WITH THE SEED: the statements are not yours to turn. If you find one false, say at which input.
  Laid BY PROGRAM, IN A SANDBOX (cutbox-rows.mjs): the forced cells as the released guide's own fill.sh prints them over the translation 6784a720f6451ee4… (all of the seat's roots in one cut). By AI agents, Wed Nov 11 2026. No macro, syntax, notation, axiom, sorry.
-/
import Derived.Test.Qxb6500884aChecked
import GoSem.Claim
import GoSem.ClaimJoined
import GoSem.ClaimMapViews
import Derived.JoinedTies
import Derived.KernelRfl
namespace Go.Proofs.Qxb6500884a
/- THE CELL 'sum', in the pinned program and in every row, IS THE sha256 OF THE DUMP (.gsa) THAT Qxb6500884aProg.lean LOADS. Nothing in Lean hashes anything: it is a label: what it is worth is what the hold of that sum in a sandbox is worth. -/
noncomputable def Try.pinned : Pinned := { name := "qxb6500884a", sum := "6784a720f6451ee411fa30957cdefeea83950430a5f3cee4fe9dbe067bfedc8d", checked := Try.checked }
namespace Rows
def none {H : Type} : Left H := { results := [], args := [] }

/-- 'charclasslaw.Normalises': WHATEVER THE INPUT: true; the input reads as it did. -/
def normalisesSpec : ChangeSpec := { name := "normalises", fn := fun _ => fun
  | [d] => { results := [.lit (.bool true)], args := [d] }
  | _ => none }
def normalisesRow : OpenClaim := { program := "qxb6500884a", sum := "6784a720f6451ee411fa30957cdefeea83950430a5f3cee4fe9dbe067bfedc8d", func := "e2e/charclasslaw.Normalises", spec := "normalises", inPlace := ["internal/reflectlite.ValueOf", "internal/reflectlite.Swapper", "(internal/reflectlite.Value).Len"], unfollowed := true, recurses := true, apart := false }
def NormalisesSaid : Prop := normalisesRow.holds Try.pinned (OpenSpec.ofChange normalisesSpec)

/-- ITS FALSE NEIGHBOUR: 'it returns false'. Refute it at one input. -/
def normalisesWrong : ChangeSpec := { name := "normalises", fn := fun _ => fun
  | [d] => { results := [.lit (.bool false)], args := [d] }
  | _ => none }
def NormalisesWrongFalsely : Prop := normalisesRow.holds Try.pinned (OpenSpec.ofChange normalisesWrong)

/-- 'charclasslaw.BooleanOps': WHATEVER THE INPUT: true; the input reads as it did. -/
def booleanOpsSpec : ChangeSpec := { name := "booleanOps", fn := fun _ => fun
  | [d] => { results := [.lit (.bool true)], args := [d] }
  | _ => none }
def booleanOpsRow : OpenClaim := { program := "qxb6500884a", sum := "6784a720f6451ee411fa30957cdefeea83950430a5f3cee4fe9dbe067bfedc8d", func := "e2e/charclasslaw.BooleanOps", spec := "booleanOps", inPlace := ["internal/reflectlite.ValueOf", "internal/reflectlite.Swapper", "(internal/reflectlite.Value).Len"], unfollowed := true, recurses := true, apart := false }
def BooleanOpsSaid : Prop := booleanOpsRow.holds Try.pinned (OpenSpec.ofChange booleanOpsSpec)

/-- ITS FALSE NEIGHBOUR: 'it returns false'. Refute it at one input. -/
def booleanOpsWrong : ChangeSpec := { name := "booleanOps", fn := fun _ => fun
  | [d] => { results := [.lit (.bool false)], args := [d] }
  | _ => none }
def BooleanOpsWrongFalsely : Prop := booleanOpsRow.holds Try.pinned (OpenSpec.ofChange booleanOpsWrong)

/-- 'charclasslaw.MintermsPartition': WHATEVER THE INPUT: true; the input reads as it did. -/
def mintermsPartitionSpec : ChangeSpec := { name := "mintermsPartition", fn := fun _ => fun
  | [d] => { results := [.lit (.bool true)], args := [d] }
  | _ => none }
def mintermsPartitionRow : OpenClaim := { program := "qxb6500884a", sum := "6784a720f6451ee411fa30957cdefeea83950430a5f3cee4fe9dbe067bfedc8d", func := "e2e/charclasslaw.MintermsPartition", spec := "mintermsPartition", inPlace := ["internal/reflectlite.ValueOf", "internal/reflectlite.Swapper", "(internal/reflectlite.Value).Len"], unfollowed := true, recurses := true, apart := false }
def MintermsPartitionSaid : Prop := mintermsPartitionRow.holds Try.pinned (OpenSpec.ofChange mintermsPartitionSpec)

/-- ITS FALSE NEIGHBOUR: 'it returns false'. Refute it at one input. -/
def mintermsPartitionWrong : ChangeSpec := { name := "mintermsPartition", fn := fun _ => fun
  | [d] => { results := [.lit (.bool false)], args := [d] }
  | _ => none }
def MintermsPartitionWrongFalsely : Prop := mintermsPartitionRow.holds Try.pinned (OpenSpec.ofChange mintermsPartitionWrong)

/-- 'charclasslaw.RefinesModel': WHATEVER THE INPUT: true; the input reads as it did. -/
def refinesModelSpec : ChangeSpec := { name := "refinesModel", fn := fun _ => fun
  | [d] => { results := [.lit (.bool true)], args := [d] }
  | _ => none }
def refinesModelRow : OpenClaim := { program := "qxb6500884a", sum := "6784a720f6451ee411fa30957cdefeea83950430a5f3cee4fe9dbe067bfedc8d", func := "e2e/charclasslaw.RefinesModel", spec := "refinesModel", inPlace := ["internal/reflectlite.ValueOf", "internal/reflectlite.Swapper", "(internal/reflectlite.Value).Len"], unfollowed := true, recurses := true, apart := false }
def RefinesModelSaid : Prop := refinesModelRow.holds Try.pinned (OpenSpec.ofChange refinesModelSpec)

/-- ITS FALSE NEIGHBOUR: 'it returns false'. Refute it at one input. -/
def refinesModelWrong : ChangeSpec := { name := "refinesModel", fn := fun _ => fun
  | [d] => { results := [.lit (.bool false)], args := [d] }
  | _ => none }
def RefinesModelWrongFalsely : Prop := refinesModelRow.holds Try.pinned (OpenSpec.ofChange refinesModelWrong)

/-- 'charclasslaw.LeastMember': WHATEVER THE INPUT: true; the input reads as it did. -/
def leastMemberSpec : ChangeSpec := { name := "leastMember", fn := fun _ => fun
  | [d] => { results := [.lit (.bool true)], args := [d] }
  | _ => none }
def leastMemberRow : OpenClaim := { program := "qxb6500884a", sum := "6784a720f6451ee411fa30957cdefeea83950430a5f3cee4fe9dbe067bfedc8d", func := "e2e/charclasslaw.LeastMember", spec := "leastMember", inPlace := ["internal/reflectlite.ValueOf", "internal/reflectlite.Swapper", "(internal/reflectlite.Value).Len"], unfollowed := true, recurses := true, apart := false }
def LeastMemberSaid : Prop := leastMemberRow.holds Try.pinned (OpenSpec.ofChange leastMemberSpec)

/-- ITS FALSE NEIGHBOUR: 'it returns false'. Refute it at one input. -/
def leastMemberWrong : ChangeSpec := { name := "leastMember", fn := fun _ => fun
  | [d] => { results := [.lit (.bool false)], args := [d] }
  | _ => none }
def LeastMemberWrongFalsely : Prop := leastMemberRow.holds Try.pinned (OpenSpec.ofChange leastMemberWrong)

/-- 'charclasslaw.Immutable': WHATEVER THE INPUT: true; the input reads as it did. -/
def immutableSpec : ChangeSpec := { name := "immutable", fn := fun _ => fun
  | [d] => { results := [.lit (.bool true)], args := [d] }
  | _ => none }
def immutableRow : OpenClaim := { program := "qxb6500884a", sum := "6784a720f6451ee411fa30957cdefeea83950430a5f3cee4fe9dbe067bfedc8d", func := "e2e/charclasslaw.Immutable", spec := "immutable", inPlace := ["internal/reflectlite.ValueOf", "internal/reflectlite.Swapper", "(internal/reflectlite.Value).Len"], unfollowed := true, recurses := true, apart := false }
def ImmutableSaid : Prop := immutableRow.holds Try.pinned (OpenSpec.ofChange immutableSpec)

/-- ITS FALSE NEIGHBOUR: 'it returns false'. Refute it at one input. -/
def immutableWrong : ChangeSpec := { name := "immutable", fn := fun _ => fun
  | [d] => { results := [.lit (.bool false)], args := [d] }
  | _ => none }
def ImmutableWrongFalsely : Prop := immutableRow.holds Try.pinned (OpenSpec.ofChange immutableWrong)

/-- 'charclasslaw.TotalOrder': WHATEVER THE INPUT: true; the input reads as it did. -/
def totalOrderSpec : ChangeSpec := { name := "totalOrder", fn := fun _ => fun
  | [d] => { results := [.lit (.bool true)], args := [d] }
  | _ => none }
def totalOrderRow : OpenClaim := { program := "qxb6500884a", sum := "6784a720f6451ee411fa30957cdefeea83950430a5f3cee4fe9dbe067bfedc8d", func := "e2e/charclasslaw.TotalOrder", spec := "totalOrder", inPlace := ["internal/reflectlite.ValueOf", "internal/reflectlite.Swapper", "(internal/reflectlite.Value).Len"], unfollowed := true, recurses := true, apart := false }
def TotalOrderSaid : Prop := totalOrderRow.holds Try.pinned (OpenSpec.ofChange totalOrderSpec)

/-- ITS FALSE NEIGHBOUR: 'it returns false'. Refute it at one input. -/
def totalOrderWrong : ChangeSpec := { name := "totalOrder", fn := fun _ => fun
  | [d] => { results := [.lit (.bool false)], args := [d] }
  | _ => none }
def TotalOrderWrongFalsely : Prop := totalOrderRow.holds Try.pinned (OpenSpec.ofChange totalOrderWrong)

/-- 'charclasslaw.Relations': WHATEVER THE INPUT: true; the input reads as it did. -/
def relationsSpec : ChangeSpec := { name := "relations", fn := fun _ => fun
  | [d] => { results := [.lit (.bool true)], args := [d] }
  | _ => none }
def relationsRow : OpenClaim := { program := "qxb6500884a", sum := "6784a720f6451ee411fa30957cdefeea83950430a5f3cee4fe9dbe067bfedc8d", func := "e2e/charclasslaw.Relations", spec := "relations", inPlace := ["internal/reflectlite.ValueOf", "internal/reflectlite.Swapper", "(internal/reflectlite.Value).Len"], unfollowed := true, recurses := true, apart := false }
def RelationsSaid : Prop := relationsRow.holds Try.pinned (OpenSpec.ofChange relationsSpec)

/-- ITS FALSE NEIGHBOUR: 'it returns false'. Refute it at one input. -/
def relationsWrong : ChangeSpec := { name := "relations", fn := fun _ => fun
  | [d] => { results := [.lit (.bool false)], args := [d] }
  | _ => none }
def RelationsWrongFalsely : Prop := relationsRow.holds Try.pinned (OpenSpec.ofChange relationsWrong)

end Rows
end Go.Proofs.Qxb6500884a
