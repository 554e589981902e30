/-
  No cell of these rows narrows 'for every input' (looked for: loops, veiled, ifaces, maps, wideKeys, modest, calm, conditions, laid).
  DERIVED. THE GIVEN ROWS OF THIS SEAT. 5 by the template 'for every input the law returns true; each argument reads behind the call as it read before'; 0 by the template 'total and deterministic' (their statements: YthihmgnfnhcgeaaTotals.lean).
  GIVEN WITH THE SEED: the statements are not yours to turn. If you find one false, say at which input.
  Laid BY PROGRAM, IN A SANDBOX (cutbox-rows.mjs): the forced cells as the released guide's own fill.sh prints them over the translation f4f8778022829bcf… (all of the seat's roots in one cut). By AI agents, Wed Nov 11 2026. No macro, syntax, notation, axiom, sorry.
-/
import Derived.Test.YthihmgnfnhcgeaaChecked
import GoSem.Claim
import GoSem.ClaimJoined
import GoSem.ClaimMapViews
import Derived.JoinedTies
import Derived.KernelRfl
namespace Go.Proofs.Ythihmgnfnhcgeaa
/- THE CELL 'sum', in the pinned program and in every row, IS THE sha256 OF THE DUMP (.gsa) THAT YthihmgnfnhcgeaaProg.lean LOADS. Nothing in Lean hashes anything: it is a label: what it is worth is what the hold of that sum in a sandbox is worth. -/
noncomputable def Try.pinned : Pinned := { name := "ythihmgnfnhcgeaa", sum := "f4f8778022829bcf8651528980418b3e068f626943c7981fe2a924eabe6fd293", checked := Try.checked }
namespace Rows
def none {H : Type} : Left H := { results := [], args := [] }

/-- 'parllaw4.HoleFills': WHATEVER THE INPUT: true; the input reads as it did. -/
def holeFillsSpec : ChangeSpec := { name := "holeFills", fn := fun _ => fun
  | [d1, d2] => { results := [.lit (.bool true)], args := [d1, d2] }
  | _ => none }
def holeFillsRow : OpenClaim := { program := "ythihmgnfnhcgeaa", sum := "f4f8778022829bcf8651528980418b3e068f626943c7981fe2a924eabe6fd293", func := "parlance/parllaw4.HoleFills", spec := "holeFills", unfollowed := true, recurses := true, plainKeys := false, apart := false }
def HoleFillsSaid : Prop := holeFillsRow.holds Try.pinned (OpenSpec.ofChange holeFillsSpec)

/-- ITS FALSE NEIGHBOUR: 'it returns false'. Refute it at one input. -/
def holeFillsWrong : ChangeSpec := { name := "holeFills", fn := fun _ => fun
  | [d1, d2] => { results := [.lit (.bool false)], args := [d1, d2] }
  | _ => none }
def HoleFillsWrongFalsely : Prop := holeFillsRow.holds Try.pinned (OpenSpec.ofChange holeFillsWrong)

/-- 'parlkeep4.HoleMayFill': WHATEVER THE INPUT: true; the input reads as it did. -/
def holeMayFillSpec : ChangeSpec := { name := "holeMayFill", fn := fun _ => fun
  | [d1, d2, d3] => { results := [.lit (.bool true)], args := [d1, d2, d3] }
  | _ => none }
def holeMayFillRow : OpenClaim := { program := "ythihmgnfnhcgeaa", sum := "f4f8778022829bcf8651528980418b3e068f626943c7981fe2a924eabe6fd293", func := "parlance/parlkeep4.HoleMayFill", spec := "holeMayFill", unfollowed := true, recurses := true, plainKeys := false, apart := false }
def HoleMayFillSaid : Prop := holeMayFillRow.holds Try.pinned (OpenSpec.ofChange holeMayFillSpec)

/-- ITS FALSE NEIGHBOUR: 'it returns false'. Refute it at one input. -/
def holeMayFillWrong : ChangeSpec := { name := "holeMayFill", fn := fun _ => fun
  | [d1, d2, d3] => { results := [.lit (.bool false)], args := [d1, d2, d3] }
  | _ => none }
def HoleMayFillWrongFalsely : Prop := holeMayFillRow.holds Try.pinned (OpenSpec.ofChange holeMayFillWrong)

/-- 'parlkeep4.HoleFits': WHATEVER THE INPUT: true; the input reads as it did. -/
def holeFitsSpec : ChangeSpec := { name := "holeFits", fn := fun _ => fun
  | [d1, d2, d3] => { results := [.lit (.bool true)], args := [d1, d2, d3] }
  | _ => none }
def holeFitsRow : OpenClaim := { program := "ythihmgnfnhcgeaa", sum := "f4f8778022829bcf8651528980418b3e068f626943c7981fe2a924eabe6fd293", func := "parlance/parlkeep4.HoleFits", spec := "holeFits", unfollowed := true, recurses := true, plainKeys := false, apart := false }
def HoleFitsSaid : Prop := holeFitsRow.holds Try.pinned (OpenSpec.ofChange holeFitsSpec)

/-- ITS FALSE NEIGHBOUR: 'it returns false'. Refute it at one input. -/
def holeFitsWrong : ChangeSpec := { name := "holeFits", fn := fun _ => fun
  | [d1, d2, d3] => { results := [.lit (.bool false)], args := [d1, d2, d3] }
  | _ => none }
def HoleFitsWrongFalsely : Prop := holeFitsRow.holds Try.pinned (OpenSpec.ofChange holeFitsWrong)

/-- 'parlkeep4.HoleTrees': WHATEVER THE INPUT: true; the input reads as it did. -/
def holeTreesSpec : ChangeSpec := { name := "holeTrees", fn := fun _ => fun
  | [d1, d2, d3] => { results := [.lit (.bool true)], args := [d1, d2, d3] }
  | _ => none }
def holeTreesRow : OpenClaim := { program := "ythihmgnfnhcgeaa", sum := "f4f8778022829bcf8651528980418b3e068f626943c7981fe2a924eabe6fd293", func := "parlance/parlkeep4.HoleTrees", spec := "holeTrees", unfollowed := true, recurses := true, plainKeys := false, apart := false }
def HoleTreesSaid : Prop := holeTreesRow.holds Try.pinned (OpenSpec.ofChange holeTreesSpec)

/-- ITS FALSE NEIGHBOUR: 'it returns false'. Refute it at one input. -/
def holeTreesWrong : ChangeSpec := { name := "holeTrees", fn := fun _ => fun
  | [d1, d2, d3] => { results := [.lit (.bool false)], args := [d1, d2, d3] }
  | _ => none }
def HoleTreesWrongFalsely : Prop := holeTreesRow.holds Try.pinned (OpenSpec.ofChange holeTreesWrong)

/-- 'parllaw4.HoleTells': WHATEVER THE INPUT: true; the input reads as it did. -/
def holeTellsSpec : ChangeSpec := { name := "holeTells", fn := fun _ => fun
  | [d1, d2, d3] => { results := [.lit (.bool true)], args := [d1, d2, d3] }
  | _ => none }
def holeTellsRow : OpenClaim := { program := "ythihmgnfnhcgeaa", sum := "f4f8778022829bcf8651528980418b3e068f626943c7981fe2a924eabe6fd293", func := "parlance/parllaw4.HoleTells", spec := "holeTells", unfollowed := true, recurses := true, plainKeys := false, apart := false }
def HoleTellsSaid : Prop := holeTellsRow.holds Try.pinned (OpenSpec.ofChange holeTellsSpec)

/-- ITS FALSE NEIGHBOUR: 'it returns false'. Refute it at one input. -/
def holeTellsWrong : ChangeSpec := { name := "holeTells", fn := fun _ => fun
  | [d1, d2, d3] => { results := [.lit (.bool false)], args := [d1, d2, d3] }
  | _ => none }
def HoleTellsWrongFalsely : Prop := holeTellsRow.holds Try.pinned (OpenSpec.ofChange holeTellsWrong)

/- THE SECOND FORM. 'bulk': how many values and letters a reading holds, each counted each time it is reached (what is shared counts as often as it is met; a slice's spare places count too). A statement '..UptoSaid' is the law's where the arguments, and the package variables that the reading takes, are together of bulk at most 1048576: NARROWER than '..Said'. Prove '..Said' where nothing that the law and all that it calls make is longer than what came in: it says more and counts as full. Else prove '..UptoSaid'. A law counts once. -/
mutual
def uptoBulk {H : Type} : DataW H → Nat
  | .lit (.string bytes) => bytes.length + 1
  | .lit _ => 1
  | .nil => 1
  | .ptr d => uptoBulk d + 1
  | .slice elems spare => uptoBulkAll elems + uptoBulkAll spare + 1
  | .agg parts => uptoBulkAll parts + 1
  | .iface _ d => uptoBulk d + 1
  | .map entries => uptoBulkEntries entries + 1
  | .held _ => 1
def uptoBulkAll {H : Type} : List (DataW H) → Nat
  | [] => 0
  | d :: r => uptoBulk d + uptoBulkAll r
def uptoBulkEntries {H : Type} : List (Lit × DataW H) → Nat
  | [] => 0
  | x :: r => uptoBulkEntry x + uptoBulkEntries r
def uptoBulkEntry {H : Type} : Lit × DataW H → Nat
  | (.string bytes, d) => bytes.length + uptoBulk d + 1
  | (_, d) => uptoBulk d + 1
 end
def uptoSmall : (H : Type) → List (DataW H) → Bool := fun _ ds => decide (uptoBulkAll ds ≤ 1048576)
def OpenSpec.upto (s : _root_.Go.ChangeSpec) : _root_.Go.OpenSpec := { _root_.Go.OpenSpec.ofChange s with cond := some uptoSmall }

/-- 'parllaw4.HoleFills', WHERE WHAT IT READS IS OF BULK AT MOST 1048576: true; the input reads as it did. -/
def holeFillsUptoRow : OpenClaim := { program := "ythihmgnfnhcgeaa", sum := "f4f8778022829bcf8651528980418b3e068f626943c7981fe2a924eabe6fd293", func := "parlance/parllaw4.HoleFills", spec := "holeFills", unfollowed := true, recurses := true, plainKeys := false, apart := false, narrowed := true }
def HoleFillsUptoSaid : Prop := holeFillsUptoRow.holds Try.pinned (OpenSpec.upto holeFillsSpec)

/-- 'parlkeep4.HoleMayFill', WHERE WHAT IT READS IS OF BULK AT MOST 1048576: true; the input reads as it did. -/
def holeMayFillUptoRow : OpenClaim := { program := "ythihmgnfnhcgeaa", sum := "f4f8778022829bcf8651528980418b3e068f626943c7981fe2a924eabe6fd293", func := "parlance/parlkeep4.HoleMayFill", spec := "holeMayFill", unfollowed := true, recurses := true, plainKeys := false, apart := false, narrowed := true }
def HoleMayFillUptoSaid : Prop := holeMayFillUptoRow.holds Try.pinned (OpenSpec.upto holeMayFillSpec)

/-- 'parlkeep4.HoleFits', WHERE WHAT IT READS IS OF BULK AT MOST 1048576: true; the input reads as it did. -/
def holeFitsUptoRow : OpenClaim := { program := "ythihmgnfnhcgeaa", sum := "f4f8778022829bcf8651528980418b3e068f626943c7981fe2a924eabe6fd293", func := "parlance/parlkeep4.HoleFits", spec := "holeFits", unfollowed := true, recurses := true, plainKeys := false, apart := false, narrowed := true }
def HoleFitsUptoSaid : Prop := holeFitsUptoRow.holds Try.pinned (OpenSpec.upto holeFitsSpec)

/-- 'parlkeep4.HoleTrees', WHERE WHAT IT READS IS OF BULK AT MOST 1048576: true; the input reads as it did. -/
def holeTreesUptoRow : OpenClaim := { program := "ythihmgnfnhcgeaa", sum := "f4f8778022829bcf8651528980418b3e068f626943c7981fe2a924eabe6fd293", func := "parlance/parlkeep4.HoleTrees", spec := "holeTrees", unfollowed := true, recurses := true, plainKeys := false, apart := false, narrowed := true }
def HoleTreesUptoSaid : Prop := holeTreesUptoRow.holds Try.pinned (OpenSpec.upto holeTreesSpec)

/-- 'parllaw4.HoleTells', WHERE WHAT IT READS IS OF BULK AT MOST 1048576: true; the input reads as it did. -/
def holeTellsUptoRow : OpenClaim := { program := "ythihmgnfnhcgeaa", sum := "f4f8778022829bcf8651528980418b3e068f626943c7981fe2a924eabe6fd293", func := "parlance/parllaw4.HoleTells", spec := "holeTells", unfollowed := true, recurses := true, plainKeys := false, apart := false, narrowed := true }
def HoleTellsUptoSaid : Prop := holeTellsUptoRow.holds Try.pinned (OpenSpec.upto holeTellsSpec)

end Rows
end Go.Proofs.Ythihmgnfnhcgeaa
