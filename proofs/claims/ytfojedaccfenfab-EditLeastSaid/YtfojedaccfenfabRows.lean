/-
  NARROWER THAN 'FOR EVERY INPUT', by the rows' own cells (each row's printed sentence says how): TreeChecks: loops.
  DERIVED. THE GIVEN ROWS OF THIS SEAT. 4 by the template 'for every input the law returns true; each argument reads behind the call as it read before'; 0 by the template 'total and deterministic' (their statements: YtfojedaccfenfabTotals.lean).
  GIVEN WITH THE SEED: the statements are not yours to turn. If you find one false, say at which input.
  Laid BY PROGRAM, IN A SANDBOX (cutbox-rows.mjs): the forced cells as the released guide's own fill.sh prints them over the translation 10424cd1eb2df187… (all of the seat's roots in one cut). By AI agents, Wed Nov 11 2026. No macro, syntax, notation, axiom, sorry.
-/
import Derived.Test.YtfojedaccfenfabChecked
import GoSem.Claim
import GoSem.ClaimJoined
import GoSem.ClaimMapViews
import Derived.JoinedTies
import Derived.KernelRfl
namespace Go.Proofs.Ytfojedaccfenfab
/- THE CELL 'sum', in the pinned program and in every row, IS THE sha256 OF THE DUMP (.gsa) THAT YtfojedaccfenfabProg.lean LOADS. Nothing in Lean hashes anything: it is a label: what it is worth is what the hold of that sum in a sandbox is worth. -/
noncomputable def Try.pinned : Pinned := { name := "ytfojedaccfenfab", sum := "10424cd1eb2df187d5793d593dd3ae56c467696b2515129ac59658cfcfb132e9", checked := Try.checked }
namespace Rows
def none {H : Type} : Left H := { results := [], args := [] }

/-- 'parllaw4.EditCombines': WHATEVER THE INPUT: true; the input reads as it did. -/
def editCombinesSpec : ChangeSpec := { name := "editCombines", fn := fun _ => fun
  | [d1, d2, d3, d4] => { results := [.lit (.bool true)], args := [d1, d2, d3, d4] }
  | _ => none }
def editCombinesRow : OpenClaim := { program := "ytfojedaccfenfab", sum := "10424cd1eb2df187d5793d593dd3ae56c467696b2515129ac59658cfcfb132e9", func := "parlance/parllaw4.EditCombines", spec := "editCombines", apart := false }
def EditCombinesSaid : Prop := editCombinesRow.holds Try.pinned (OpenSpec.ofChange editCombinesSpec)

/-- ITS FALSE NEIGHBOUR: 'it returns false'. Refute it at one input. -/
def editCombinesWrong : ChangeSpec := { name := "editCombines", fn := fun _ => fun
  | [d1, d2, d3, d4] => { results := [.lit (.bool false)], args := [d1, d2, d3, d4] }
  | _ => none }
def EditCombinesWrongFalsely : Prop := editCombinesRow.holds Try.pinned (OpenSpec.ofChange editCombinesWrong)

/-- 'parlkeep4.EditLeast': WHATEVER THE INPUT: true; the input reads as it did. -/
def editLeastSpec : ChangeSpec := { name := "editLeast", fn := fun _ => fun
  | [d1, d2, d3] => { results := [.lit (.bool true)], args := [d1, d2, d3] }
  | _ => none }
def editLeastRow : OpenClaim := { program := "ytfojedaccfenfab", sum := "10424cd1eb2df187d5793d593dd3ae56c467696b2515129ac59658cfcfb132e9", func := "parlance/parlkeep4.EditLeast", spec := "editLeast", unfollowed := true, recurses := true, apart := false }
def EditLeastSaid : Prop := editLeastRow.holds Try.pinned (OpenSpec.ofChange editLeastSpec)

/-- ITS FALSE NEIGHBOUR: 'it returns false'. Refute it at one input. -/
def editLeastWrong : ChangeSpec := { name := "editLeast", fn := fun _ => fun
  | [d1, d2, d3] => { results := [.lit (.bool false)], args := [d1, d2, d3] }
  | _ => none }
def EditLeastWrongFalsely : Prop := editLeastRow.holds Try.pinned (OpenSpec.ofChange editLeastWrong)

/-- 'parllaw4.EditScripts': WHATEVER THE INPUT: true; the input reads as it did. -/
def editScriptsSpec : ChangeSpec := { name := "editScripts", fn := fun _ => fun
  | [d1, d2, d3] => { results := [.lit (.bool true)], args := [d1, d2, d3] }
  | _ => none }
def editScriptsRow : OpenClaim := { program := "ytfojedaccfenfab", sum := "10424cd1eb2df187d5793d593dd3ae56c467696b2515129ac59658cfcfb132e9", func := "parlance/parllaw4.EditScripts", spec := "editScripts", unfollowed := true, recurses := true, apart := false }
def EditScriptsSaid : Prop := editScriptsRow.holds Try.pinned (OpenSpec.ofChange editScriptsSpec)

/-- ITS FALSE NEIGHBOUR: 'it returns false'. Refute it at one input. -/
def editScriptsWrong : ChangeSpec := { name := "editScripts", fn := fun _ => fun
  | [d1, d2, d3] => { results := [.lit (.bool false)], args := [d1, d2, d3] }
  | _ => none }
def EditScriptsWrongFalsely : Prop := editScriptsRow.holds Try.pinned (OpenSpec.ofChange editScriptsWrong)

/-- 'parllaw4.TreeChecks': WHATEVER THE INPUT: true; the input reads as it did. -/
def treeChecksSpec : ChangeSpec := { name := "treeChecks", fn := fun _ => fun
  | [d1, d2] => { results := [.lit (.bool true)], args := [d1, d2] }
  | _ => none }
def treeChecksRow : OpenClaim := { program := "ytfojedaccfenfab", sum := "10424cd1eb2df187d5793d593dd3ae56c467696b2515129ac59658cfcfb132e9", func := "parlance/parllaw4.TreeChecks", spec := "treeChecks", unfollowed := true, recurses := true, loops := true, apart := false }
def TreeChecksSaid : Prop := treeChecksRow.holds Try.pinned (OpenSpec.ofChange treeChecksSpec)

/-- ITS FALSE NEIGHBOUR: 'it returns false'. Refute it at one input. -/
def treeChecksWrong : ChangeSpec := { name := "treeChecks", fn := fun _ => fun
  | [d1, d2] => { results := [.lit (.bool false)], args := [d1, d2] }
  | _ => none }
def TreeChecksWrongFalsely : Prop := treeChecksRow.holds Try.pinned (OpenSpec.ofChange treeChecksWrong)

/- THE SECOND FORM. 'bulk': how many values and letters a reading holds, each counted each time it is reached (what is shared counts as often as it is met; a slice's spare places count too). A statement '..UptoSaid' is the law's where the arguments, and the package variables that the reading takes, are together of bulk at most 1048576: NARROWER than '..Said'. Prove '..Said' where nothing that the law and all that it calls make is longer than what came in: it says more and counts as full. Else prove '..UptoSaid'. A law counts once. -/
mutual
def uptoBulk {H : Type} : DataW H → Nat
  | .lit (.string bytes) => bytes.length + 1
  | .lit _ => 1
  | .nil => 1
  | .ptr d => uptoBulk d + 1
  | .slice elems spare => uptoBulkAll elems + uptoBulkAll spare + 1
  | .agg parts => uptoBulkAll parts + 1
  | .iface _ d => uptoBulk d + 1
  | .map entries => uptoBulkEntries entries + 1
  | .held _ => 1
def uptoBulkAll {H : Type} : List (DataW H) → Nat
  | [] => 0
  | d :: r => uptoBulk d + uptoBulkAll r
def uptoBulkEntries {H : Type} : List (Lit × DataW H) → Nat
  | [] => 0
  | x :: r => uptoBulkEntry x + uptoBulkEntries r
def uptoBulkEntry {H : Type} : Lit × DataW H → Nat
  | (.string bytes, d) => bytes.length + uptoBulk d + 1
  | (_, d) => uptoBulk d + 1
 end
def uptoSmall : (H : Type) → List (DataW H) → Bool := fun _ ds => decide (uptoBulkAll ds ≤ 1048576)
def OpenSpec.upto (s : _root_.Go.ChangeSpec) : _root_.Go.OpenSpec := { _root_.Go.OpenSpec.ofChange s with cond := some uptoSmall }

/-- 'parllaw4.EditCombines', WHERE WHAT IT READS IS OF BULK AT MOST 1048576: true; the input reads as it did. -/
def editCombinesUptoRow : OpenClaim := { program := "ytfojedaccfenfab", sum := "10424cd1eb2df187d5793d593dd3ae56c467696b2515129ac59658cfcfb132e9", func := "parlance/parllaw4.EditCombines", spec := "editCombines", apart := false, narrowed := true }
def EditCombinesUptoSaid : Prop := editCombinesUptoRow.holds Try.pinned (OpenSpec.upto editCombinesSpec)

/-- 'parlkeep4.EditLeast', WHERE WHAT IT READS IS OF BULK AT MOST 1048576: true; the input reads as it did. -/
def editLeastUptoRow : OpenClaim := { program := "ytfojedaccfenfab", sum := "10424cd1eb2df187d5793d593dd3ae56c467696b2515129ac59658cfcfb132e9", func := "parlance/parlkeep4.EditLeast", spec := "editLeast", unfollowed := true, recurses := true, apart := false, narrowed := true }
def EditLeastUptoSaid : Prop := editLeastUptoRow.holds Try.pinned (OpenSpec.upto editLeastSpec)

/-- 'parllaw4.EditScripts', WHERE WHAT IT READS IS OF BULK AT MOST 1048576: true; the input reads as it did. -/
def editScriptsUptoRow : OpenClaim := { program := "ytfojedaccfenfab", sum := "10424cd1eb2df187d5793d593dd3ae56c467696b2515129ac59658cfcfb132e9", func := "parlance/parllaw4.EditScripts", spec := "editScripts", unfollowed := true, recurses := true, apart := false, narrowed := true }
def EditScriptsUptoSaid : Prop := editScriptsUptoRow.holds Try.pinned (OpenSpec.upto editScriptsSpec)

/-- 'parllaw4.TreeChecks', WHERE WHAT IT READS IS OF BULK AT MOST 1048576: true; the input reads as it did. -/
def treeChecksUptoRow : OpenClaim := { program := "ytfojedaccfenfab", sum := "10424cd1eb2df187d5793d593dd3ae56c467696b2515129ac59658cfcfb132e9", func := "parlance/parllaw4.TreeChecks", spec := "treeChecks", unfollowed := true, recurses := true, loops := true, apart := false, narrowed := true }
def TreeChecksUptoSaid : Prop := treeChecksUptoRow.holds Try.pinned (OpenSpec.upto treeChecksSpec)

end Rows
end Go.Proofs.Ytfojedaccfenfab
