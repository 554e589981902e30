/-
  NARROWER THAN 'FOR EVERY INPUT', by the rows' own cells (each row's printed sentence says how): TreeParts: loops · TreeOrder: loops · TreePlaces: loops.
  DERIVED. THE GIVEN ROWS OF THIS SEAT. 12 by the template 'for every input the law returns true; each argument reads behind the call as it read before'; 0 by the template 'total and deterministic' (their statements: YtfojedaccfenfaaTotals.lean).
  GIVEN WITH THE SEED: the statements are not yours to turn. If you find one false, say at which input.
  Laid BY PROGRAM, IN A SANDBOX (cutbox-rows.mjs): the forced cells as the released guide's own fill.sh prints them over the translation c54389e15fabed6a… (all of the seat's roots in one cut). By AI agents, Wed Nov 11 2026. No macro, syntax, notation, axiom, sorry.
-/
import Derived.Test.YtfojedaccfenfaaChecked
import GoSem.Claim
import GoSem.ClaimJoined
import GoSem.ClaimMapViews
import Derived.JoinedTies
import Derived.KernelRfl
namespace Go.Proofs.Ytfojedaccfenfaa
/- THE CELL 'sum', in the pinned program and in every row, IS THE sha256 OF THE DUMP (.gsa) THAT YtfojedaccfenfaaProg.lean LOADS. Nothing in Lean hashes anything: it is a label: what it is worth is what the hold of that sum in a sandbox is worth. -/
noncomputable def Try.pinned : Pinned := { name := "ytfojedaccfenfaa", sum := "c54389e15fabed6aa12515df6e40853dacb27d71c5106b8d52361520545e2803", checked := Try.checked }
namespace Rows
def none {H : Type} : Left H := { results := [], args := [] }

/-- 'parlkeep4.TreePutAt': WHATEVER THE INPUT: true; the input reads as it did. -/
def treePutAtSpec : ChangeSpec := { name := "treePutAt", fn := fun _ => fun
  | [d1, d2, d3, d4] => { results := [.lit (.bool true)], args := [d1, d2, d3, d4] }
  | _ => none }
def treePutAtRow : OpenClaim := { program := "ytfojedaccfenfaa", sum := "c54389e15fabed6aa12515df6e40853dacb27d71c5106b8d52361520545e2803", func := "parlance/parlkeep4.TreePutAt", spec := "treePutAt", unfollowed := true, recurses := true, plainKeys := false, apart := false }
def TreePutAtSaid : Prop := treePutAtRow.holds Try.pinned (OpenSpec.ofChange treePutAtSpec)

/-- ITS FALSE NEIGHBOUR: 'it returns false'. Refute it at one input. -/
def treePutAtWrong : ChangeSpec := { name := "treePutAt", fn := fun _ => fun
  | [d1, d2, d3, d4] => { results := [.lit (.bool false)], args := [d1, d2, d3, d4] }
  | _ => none }
def TreePutAtWrongFalsely : Prop := treePutAtRow.holds Try.pinned (OpenSpec.ofChange treePutAtWrong)

/-- 'parllaw4.TreeParts': WHATEVER THE INPUT: true; the input reads as it did. -/
def treePartsSpec : ChangeSpec := { name := "treeParts", fn := fun _ => fun
  | [d1, d2, d3] => { results := [.lit (.bool true)], args := [d1, d2, d3] }
  | _ => none }
def treePartsRow : OpenClaim := { program := "ytfojedaccfenfaa", sum := "c54389e15fabed6aa12515df6e40853dacb27d71c5106b8d52361520545e2803", func := "parlance/parllaw4.TreeParts", spec := "treeParts", recurses := true, loops := true, plainKeys := false, apart := false }
def TreePartsSaid : Prop := treePartsRow.holds Try.pinned (OpenSpec.ofChange treePartsSpec)

/-- ITS FALSE NEIGHBOUR: 'it returns false'. Refute it at one input. -/
def treePartsWrong : ChangeSpec := { name := "treeParts", fn := fun _ => fun
  | [d1, d2, d3] => { results := [.lit (.bool false)], args := [d1, d2, d3] }
  | _ => none }
def TreePartsWrongFalsely : Prop := treePartsRow.holds Try.pinned (OpenSpec.ofChange treePartsWrong)

/-- 'parllaw4.EditApplies': WHATEVER THE INPUT: true; the input reads as it did. -/
def editAppliesSpec : ChangeSpec := { name := "editApplies", fn := fun _ => fun
  | [d1, d2] => { results := [.lit (.bool true)], args := [d1, d2] }
  | _ => none }
def editAppliesRow : OpenClaim := { program := "ytfojedaccfenfaa", sum := "c54389e15fabed6aa12515df6e40853dacb27d71c5106b8d52361520545e2803", func := "parlance/parllaw4.EditApplies", spec := "editApplies", plainKeys := false, apart := false }
def EditAppliesSaid : Prop := editAppliesRow.holds Try.pinned (OpenSpec.ofChange editAppliesSpec)

/-- ITS FALSE NEIGHBOUR: 'it returns false'. Refute it at one input. -/
def editAppliesWrong : ChangeSpec := { name := "editApplies", fn := fun _ => fun
  | [d1, d2] => { results := [.lit (.bool false)], args := [d1, d2] }
  | _ => none }
def EditAppliesWrongFalsely : Prop := editAppliesRow.holds Try.pinned (OpenSpec.ofChange editAppliesWrong)

/-- 'parlkeep4.EditUndone': WHATEVER THE INPUT: true; the input reads as it did. -/
def editUndoneSpec : ChangeSpec := { name := "editUndone", fn := fun _ => fun
  | [d1, d2] => { results := [.lit (.bool true)], args := [d1, d2] }
  | _ => none }
def editUndoneRow : OpenClaim := { program := "ytfojedaccfenfaa", sum := "c54389e15fabed6aa12515df6e40853dacb27d71c5106b8d52361520545e2803", func := "parlance/parlkeep4.EditUndone", spec := "editUndone", plainKeys := false, apart := false }
def EditUndoneSaid : Prop := editUndoneRow.holds Try.pinned (OpenSpec.ofChange editUndoneSpec)

/-- ITS FALSE NEIGHBOUR: 'it returns false'. Refute it at one input. -/
def editUndoneWrong : ChangeSpec := { name := "editUndone", fn := fun _ => fun
  | [d1, d2] => { results := [.lit (.bool false)], args := [d1, d2] }
  | _ => none }
def EditUndoneWrongFalsely : Prop := editUndoneRow.holds Try.pinned (OpenSpec.ofChange editUndoneWrong)

/-- 'parlkeep4.EditComposed': WHATEVER THE INPUT: true; the input reads as it did. -/
def editComposedSpec : ChangeSpec := { name := "editComposed", fn := fun _ => fun
  | [d1, d2, d3, d4] => { results := [.lit (.bool true)], args := [d1, d2, d3, d4] }
  | _ => none }
def editComposedRow : OpenClaim := { program := "ytfojedaccfenfaa", sum := "c54389e15fabed6aa12515df6e40853dacb27d71c5106b8d52361520545e2803", func := "parlance/parlkeep4.EditComposed", spec := "editComposed", plainKeys := false, apart := false }
def EditComposedSaid : Prop := editComposedRow.holds Try.pinned (OpenSpec.ofChange editComposedSpec)

/-- ITS FALSE NEIGHBOUR: 'it returns false'. Refute it at one input. -/
def editComposedWrong : ChangeSpec := { name := "editComposed", fn := fun _ => fun
  | [d1, d2, d3, d4] => { results := [.lit (.bool false)], args := [d1, d2, d3, d4] }
  | _ => none }
def EditComposedWrongFalsely : Prop := editComposedRow.holds Try.pinned (OpenSpec.ofChange editComposedWrong)

/-- 'parllaw4.TreeOrder': WHATEVER THE INPUT: true; the input reads as it did. -/
def treeOrderSpec : ChangeSpec := { name := "treeOrder", fn := fun _ => fun
  | [d1, d2] => { results := [.lit (.bool true)], args := [d1, d2] }
  | _ => none }
def treeOrderRow : OpenClaim := { program := "ytfojedaccfenfaa", sum := "c54389e15fabed6aa12515df6e40853dacb27d71c5106b8d52361520545e2803", func := "parlance/parllaw4.TreeOrder", spec := "treeOrder", recurses := true, loops := true, plainKeys := false, apart := false }
def TreeOrderSaid : Prop := treeOrderRow.holds Try.pinned (OpenSpec.ofChange treeOrderSpec)

/-- ITS FALSE NEIGHBOUR: 'it returns false'. Refute it at one input. -/
def treeOrderWrong : ChangeSpec := { name := "treeOrder", fn := fun _ => fun
  | [d1, d2] => { results := [.lit (.bool false)], args := [d1, d2] }
  | _ => none }
def TreeOrderWrongFalsely : Prop := treeOrderRow.holds Try.pinned (OpenSpec.ofChange treeOrderWrong)

/-- 'parlkeep4.EditDiamond': WHATEVER THE INPUT: true; the input reads as it did. -/
def editDiamondSpec : ChangeSpec := { name := "editDiamond", fn := fun _ => fun
  | [d1, d2, d3] => { results := [.lit (.bool true)], args := [d1, d2, d3] }
  | _ => none }
def editDiamondRow : OpenClaim := { program := "ytfojedaccfenfaa", sum := "c54389e15fabed6aa12515df6e40853dacb27d71c5106b8d52361520545e2803", func := "parlance/parlkeep4.EditDiamond", spec := "editDiamond", plainKeys := false, apart := false }
def EditDiamondSaid : Prop := editDiamondRow.holds Try.pinned (OpenSpec.ofChange editDiamondSpec)

/-- ITS FALSE NEIGHBOUR: 'it returns false'. Refute it at one input. -/
def editDiamondWrong : ChangeSpec := { name := "editDiamond", fn := fun _ => fun
  | [d1, d2, d3] => { results := [.lit (.bool false)], args := [d1, d2, d3] }
  | _ => none }
def EditDiamondWrongFalsely : Prop := editDiamondRow.holds Try.pinned (OpenSpec.ofChange editDiamondWrong)

/-- 'parlkeep4.TreeOrderTotal': WHATEVER THE INPUT: true; the input reads as it did. -/
def treeOrderTotalSpec : ChangeSpec := { name := "treeOrderTotal", fn := fun _ => fun
  | [d1, d2, d3, d4] => { results := [.lit (.bool true)], args := [d1, d2, d3, d4] }
  | _ => none }
def treeOrderTotalRow : OpenClaim := { program := "ytfojedaccfenfaa", sum := "c54389e15fabed6aa12515df6e40853dacb27d71c5106b8d52361520545e2803", func := "parlance/parlkeep4.TreeOrderTotal", spec := "treeOrderTotal", unfollowed := true, recurses := true, plainKeys := false, apart := false }
def TreeOrderTotalSaid : Prop := treeOrderTotalRow.holds Try.pinned (OpenSpec.ofChange treeOrderTotalSpec)

/-- ITS FALSE NEIGHBOUR: 'it returns false'. Refute it at one input. -/
def treeOrderTotalWrong : ChangeSpec := { name := "treeOrderTotal", fn := fun _ => fun
  | [d1, d2, d3, d4] => { results := [.lit (.bool false)], args := [d1, d2, d3, d4] }
  | _ => none }
def TreeOrderTotalWrongFalsely : Prop := treeOrderTotalRow.holds Try.pinned (OpenSpec.ofChange treeOrderTotalWrong)

/-- 'parllaw4.TreePlaces': WHATEVER THE INPUT: true; the input reads as it did. -/
def treePlacesSpec : ChangeSpec := { name := "treePlaces", fn := fun _ => fun
  | [d1, d2, d3, d4] => { results := [.lit (.bool true)], args := [d1, d2, d3, d4] }
  | _ => none }
def treePlacesRow : OpenClaim := { program := "ytfojedaccfenfaa", sum := "c54389e15fabed6aa12515df6e40853dacb27d71c5106b8d52361520545e2803", func := "parlance/parllaw4.TreePlaces", spec := "treePlaces", unfollowed := true, recurses := true, loops := true, plainKeys := false, apart := false }
def TreePlacesSaid : Prop := treePlacesRow.holds Try.pinned (OpenSpec.ofChange treePlacesSpec)

/-- ITS FALSE NEIGHBOUR: 'it returns false'. Refute it at one input. -/
def treePlacesWrong : ChangeSpec := { name := "treePlaces", fn := fun _ => fun
  | [d1, d2, d3, d4] => { results := [.lit (.bool false)], args := [d1, d2, d3, d4] }
  | _ => none }
def TreePlacesWrongFalsely : Prop := treePlacesRow.holds Try.pinned (OpenSpec.ofChange treePlacesWrong)

/-- 'parlkeep4.TreePlaced': WHATEVER THE INPUT: true; the input reads as it did. -/
def treePlacedSpec : ChangeSpec := { name := "treePlaced", fn := fun _ => fun
  | [d1, d2, d3, d4] => { results := [.lit (.bool true)], args := [d1, d2, d3, d4] }
  | _ => none }
def treePlacedRow : OpenClaim := { program := "ytfojedaccfenfaa", sum := "c54389e15fabed6aa12515df6e40853dacb27d71c5106b8d52361520545e2803", func := "parlance/parlkeep4.TreePlaced", spec := "treePlaced", unfollowed := true, recurses := true, plainKeys := false, apart := false }
def TreePlacedSaid : Prop := treePlacedRow.holds Try.pinned (OpenSpec.ofChange treePlacedSpec)

/-- ITS FALSE NEIGHBOUR: 'it returns false'. Refute it at one input. -/
def treePlacedWrong : ChangeSpec := { name := "treePlaced", fn := fun _ => fun
  | [d1, d2, d3, d4] => { results := [.lit (.bool false)], args := [d1, d2, d3, d4] }
  | _ => none }
def TreePlacedWrongFalsely : Prop := treePlacedRow.holds Try.pinned (OpenSpec.ofChange treePlacedWrong)

/-- 'parllaw4.RepairAligns': WHATEVER THE INPUT: true; the input reads as it did. -/
def repairAlignsSpec : ChangeSpec := { name := "repairAligns", fn := fun _ => fun
  | [d1, d2, d3, d4] => { results := [.lit (.bool true)], args := [d1, d2, d3, d4] }
  | _ => none }
def repairAlignsRow : OpenClaim := { program := "ytfojedaccfenfaa", sum := "c54389e15fabed6aa12515df6e40853dacb27d71c5106b8d52361520545e2803", func := "parlance/parllaw4.RepairAligns", spec := "repairAligns", unfollowed := true, recurses := true, plainKeys := false, apart := false }
def RepairAlignsSaid : Prop := repairAlignsRow.holds Try.pinned (OpenSpec.ofChange repairAlignsSpec)

/-- ITS FALSE NEIGHBOUR: 'it returns false'. Refute it at one input. -/
def repairAlignsWrong : ChangeSpec := { name := "repairAligns", fn := fun _ => fun
  | [d1, d2, d3, d4] => { results := [.lit (.bool false)], args := [d1, d2, d3, d4] }
  | _ => none }
def RepairAlignsWrongFalsely : Prop := repairAlignsRow.holds Try.pinned (OpenSpec.ofChange repairAlignsWrong)

/-- 'parlkeep4.RepairRun': WHATEVER THE INPUT: true; the input reads as it did. -/
def repairRunSpec : ChangeSpec := { name := "repairRun", fn := fun _ => fun
  | [d1, d2, d3] => { results := [.lit (.bool true)], args := [d1, d2, d3] }
  | _ => none }
def repairRunRow : OpenClaim := { program := "ytfojedaccfenfaa", sum := "c54389e15fabed6aa12515df6e40853dacb27d71c5106b8d52361520545e2803", func := "parlance/parlkeep4.RepairRun", spec := "repairRun", unfollowed := true, recurses := true, plainKeys := false, apart := false }
def RepairRunSaid : Prop := repairRunRow.holds Try.pinned (OpenSpec.ofChange repairRunSpec)

/-- ITS FALSE NEIGHBOUR: 'it returns false'. Refute it at one input. -/
def repairRunWrong : ChangeSpec := { name := "repairRun", fn := fun _ => fun
  | [d1, d2, d3] => { results := [.lit (.bool false)], args := [d1, d2, d3] }
  | _ => none }
def RepairRunWrongFalsely : Prop := repairRunRow.holds Try.pinned (OpenSpec.ofChange repairRunWrong)

/- THE SECOND FORM. 'bulk': how many values and letters a reading holds, each counted each time it is reached (what is shared counts as often as it is met; a slice's spare places count too). A statement '..UptoSaid' is the law's where the arguments, and the package variables that the reading takes, are together of bulk at most 1048576: NARROWER than '..Said'. Prove '..Said' where nothing that the law and all that it calls make is longer than what came in: it says more and counts as full. Else prove '..UptoSaid'. A law counts once. -/
mutual
def uptoBulk {H : Type} : DataW H → Nat
  | .lit (.string bytes) => bytes.length + 1
  | .lit _ => 1
  | .nil => 1
  | .ptr d => uptoBulk d + 1
  | .slice elems spare => uptoBulkAll elems + uptoBulkAll spare + 1
  | .agg parts => uptoBulkAll parts + 1
  | .iface _ d => uptoBulk d + 1
  | .map entries => uptoBulkEntries entries + 1
  | .held _ => 1
def uptoBulkAll {H : Type} : List (DataW H) → Nat
  | [] => 0
  | d :: r => uptoBulk d + uptoBulkAll r
def uptoBulkEntries {H : Type} : List (Lit × DataW H) → Nat
  | [] => 0
  | x :: r => uptoBulkEntry x + uptoBulkEntries r
def uptoBulkEntry {H : Type} : Lit × DataW H → Nat
  | (.string bytes, d) => bytes.length + uptoBulk d + 1
  | (_, d) => uptoBulk d + 1
 end
def uptoSmall : (H : Type) → List (DataW H) → Bool := fun _ ds => decide (uptoBulkAll ds ≤ 1048576)
def OpenSpec.upto (s : _root_.Go.ChangeSpec) : _root_.Go.OpenSpec := { _root_.Go.OpenSpec.ofChange s with cond := some uptoSmall }

/-- 'parlkeep4.TreePutAt', WHERE WHAT IT READS IS OF BULK AT MOST 1048576: true; the input reads as it did. -/
def treePutAtUptoRow : OpenClaim := { program := "ytfojedaccfenfaa", sum := "c54389e15fabed6aa12515df6e40853dacb27d71c5106b8d52361520545e2803", func := "parlance/parlkeep4.TreePutAt", spec := "treePutAt", unfollowed := true, recurses := true, plainKeys := false, apart := false, narrowed := true }
def TreePutAtUptoSaid : Prop := treePutAtUptoRow.holds Try.pinned (OpenSpec.upto treePutAtSpec)

/-- 'parllaw4.TreeParts', WHERE WHAT IT READS IS OF BULK AT MOST 1048576: true; the input reads as it did. -/
def treePartsUptoRow : OpenClaim := { program := "ytfojedaccfenfaa", sum := "c54389e15fabed6aa12515df6e40853dacb27d71c5106b8d52361520545e2803", func := "parlance/parllaw4.TreeParts", spec := "treeParts", recurses := true, loops := true, plainKeys := false, apart := false, narrowed := true }
def TreePartsUptoSaid : Prop := treePartsUptoRow.holds Try.pinned (OpenSpec.upto treePartsSpec)

/-- 'parllaw4.EditApplies', WHERE WHAT IT READS IS OF BULK AT MOST 1048576: true; the input reads as it did. -/
def editAppliesUptoRow : OpenClaim := { program := "ytfojedaccfenfaa", sum := "c54389e15fabed6aa12515df6e40853dacb27d71c5106b8d52361520545e2803", func := "parlance/parllaw4.EditApplies", spec := "editApplies", plainKeys := false, apart := false, narrowed := true }
def EditAppliesUptoSaid : Prop := editAppliesUptoRow.holds Try.pinned (OpenSpec.upto editAppliesSpec)

/-- 'parlkeep4.EditUndone', WHERE WHAT IT READS IS OF BULK AT MOST 1048576: true; the input reads as it did. -/
def editUndoneUptoRow : OpenClaim := { program := "ytfojedaccfenfaa", sum := "c54389e15fabed6aa12515df6e40853dacb27d71c5106b8d52361520545e2803", func := "parlance/parlkeep4.EditUndone", spec := "editUndone", plainKeys := false, apart := false, narrowed := true }
def EditUndoneUptoSaid : Prop := editUndoneUptoRow.holds Try.pinned (OpenSpec.upto editUndoneSpec)

/-- 'parlkeep4.EditComposed', WHERE WHAT IT READS IS OF BULK AT MOST 1048576: true; the input reads as it did. -/
def editComposedUptoRow : OpenClaim := { program := "ytfojedaccfenfaa", sum := "c54389e15fabed6aa12515df6e40853dacb27d71c5106b8d52361520545e2803", func := "parlance/parlkeep4.EditComposed", spec := "editComposed", plainKeys := false, apart := false, narrowed := true }
def EditComposedUptoSaid : Prop := editComposedUptoRow.holds Try.pinned (OpenSpec.upto editComposedSpec)

/-- 'parllaw4.TreeOrder', WHERE WHAT IT READS IS OF BULK AT MOST 1048576: true; the input reads as it did. -/
def treeOrderUptoRow : OpenClaim := { program := "ytfojedaccfenfaa", sum := "c54389e15fabed6aa12515df6e40853dacb27d71c5106b8d52361520545e2803", func := "parlance/parllaw4.TreeOrder", spec := "treeOrder", recurses := true, loops := true, plainKeys := false, apart := false, narrowed := true }
def TreeOrderUptoSaid : Prop := treeOrderUptoRow.holds Try.pinned (OpenSpec.upto treeOrderSpec)

/-- 'parlkeep4.EditDiamond', WHERE WHAT IT READS IS OF BULK AT MOST 1048576: true; the input reads as it did. -/
def editDiamondUptoRow : OpenClaim := { program := "ytfojedaccfenfaa", sum := "c54389e15fabed6aa12515df6e40853dacb27d71c5106b8d52361520545e2803", func := "parlance/parlkeep4.EditDiamond", spec := "editDiamond", plainKeys := false, apart := false, narrowed := true }
def EditDiamondUptoSaid : Prop := editDiamondUptoRow.holds Try.pinned (OpenSpec.upto editDiamondSpec)

/-- 'parlkeep4.TreeOrderTotal', WHERE WHAT IT READS IS OF BULK AT MOST 1048576: true; the input reads as it did. -/
def treeOrderTotalUptoRow : OpenClaim := { program := "ytfojedaccfenfaa", sum := "c54389e15fabed6aa12515df6e40853dacb27d71c5106b8d52361520545e2803", func := "parlance/parlkeep4.TreeOrderTotal", spec := "treeOrderTotal", unfollowed := true, recurses := true, plainKeys := false, apart := false, narrowed := true }
def TreeOrderTotalUptoSaid : Prop := treeOrderTotalUptoRow.holds Try.pinned (OpenSpec.upto treeOrderTotalSpec)

/-- 'parllaw4.TreePlaces', WHERE WHAT IT READS IS OF BULK AT MOST 1048576: true; the input reads as it did. -/
def treePlacesUptoRow : OpenClaim := { program := "ytfojedaccfenfaa", sum := "c54389e15fabed6aa12515df6e40853dacb27d71c5106b8d52361520545e2803", func := "parlance/parllaw4.TreePlaces", spec := "treePlaces", unfollowed := true, recurses := true, loops := true, plainKeys := false, apart := false, narrowed := true }
def TreePlacesUptoSaid : Prop := treePlacesUptoRow.holds Try.pinned (OpenSpec.upto treePlacesSpec)

/-- 'parlkeep4.TreePlaced', WHERE WHAT IT READS IS OF BULK AT MOST 1048576: true; the input reads as it did. -/
def treePlacedUptoRow : OpenClaim := { program := "ytfojedaccfenfaa", sum := "c54389e15fabed6aa12515df6e40853dacb27d71c5106b8d52361520545e2803", func := "parlance/parlkeep4.TreePlaced", spec := "treePlaced", unfollowed := true, recurses := true, plainKeys := false, apart := false, narrowed := true }
def TreePlacedUptoSaid : Prop := treePlacedUptoRow.holds Try.pinned (OpenSpec.upto treePlacedSpec)

/-- 'parllaw4.RepairAligns', WHERE WHAT IT READS IS OF BULK AT MOST 1048576: true; the input reads as it did. -/
def repairAlignsUptoRow : OpenClaim := { program := "ytfojedaccfenfaa", sum := "c54389e15fabed6aa12515df6e40853dacb27d71c5106b8d52361520545e2803", func := "parlance/parllaw4.RepairAligns", spec := "repairAligns", unfollowed := true, recurses := true, plainKeys := false, apart := false, narrowed := true }
def RepairAlignsUptoSaid : Prop := repairAlignsUptoRow.holds Try.pinned (OpenSpec.upto repairAlignsSpec)

/-- 'parlkeep4.RepairRun', WHERE WHAT IT READS IS OF BULK AT MOST 1048576: true; the input reads as it did. -/
def repairRunUptoRow : OpenClaim := { program := "ytfojedaccfenfaa", sum := "c54389e15fabed6aa12515df6e40853dacb27d71c5106b8d52361520545e2803", func := "parlance/parlkeep4.RepairRun", spec := "repairRun", unfollowed := true, recurses := true, plainKeys := false, apart := false, narrowed := true }
def RepairRunUptoSaid : Prop := repairRunUptoRow.holds Try.pinned (OpenSpec.upto repairRunSpec)

end Rows
end Go.Proofs.Ytfojedaccfenfaa
