/- Slices of whole numbers, read out of the world. -/
import Derived.Test.YtokdeeagghhliaaR1
import Derived.Test.YtokdeeagghhliaaN2
import Derived.KernelRfl
import Derived.WideShapes
import Derived.SizedLaws
namespace Go.Proofs.Ytokdeeagghhliaa
namespace Abs
set_option linter.unusedVariables false
set_option maxRecDepth 100000
open Go.Proofs.Ytokdeeagghhliaa.Rows (uptoBulk uptoBulkAll uptoSmall)

theorem v_int : prog.underlying 3 = some (.int .i64) := by kernel_rfl
theorem v_bool : prog.underlying 4 = some .bool := by kernel_rfl
theorem v_ints : prog.underlying 22 = some (.slice 3) := by kernel_rfl
theorem k_int : prog.cellsOf 3 = 1 := by kernel_rfl
theorem k_ints : prog.cellsOf 22 = 1 := by kernel_rfl

section
variable {H : Type} {enc : TypeId × Value → H} {W : World}

theorem slice_cells {r : Reach} {b0 : Nat} {t e : TypeId} {v : Value} (ht : prog.underlying t = some (.slice e)) (h : Value.okWide prog W r b0 t v) : v.cells = #[v] := by
  obtain ⟨a, len, cap, rfl⟩ := WideShapes.okWide_slice ht h
  rfl

theorem open_intL {r : Reach} {b0 : Nat} {v : Value} {d : DataW H} {p : List MemPlace} (h : DataW.Trod enc prog W 0 (fun _ => true) true 22 v d p) (hv : Value.okWide prog W r b0 22 v) :
    ∃ l : List Int, Rep W noCtx (iD l) v ∧ l.length ≤ uptoBulk d ∧ ∀ i ∈ l, inI i :=
  Opens.arg (f := fun l : List Int => iD l) (fun n => opens_ints v_ints v_int k_int) h (slice_cells v_ints hv) fun _ => rfl

theorem All2.len {X Y : Type} {Q : X → Y → Prop} {l : List X} {m : List Y} (h : All2 Q l m) : l.length = m.length := by
  induction h with
  | nil => rfl
  | cons _ _ ih => simp [ih]

def shapeI (l : List Int) (d : DataW H) : Prop := (d = .nil ∧ l = []) ∨ ∃ es rs, d = .slice es rs ∧ l.length = es.length

theorem opens_intS : ∀ n, Opens enc prog W n 22 (fun l : List Int => iD l) (fun l d => shapeI l d ∧ ∀ i ∈ l, inI i)
  | 0 => .zero
  | n + 1 => (opens_slice (sz := 1) v_ints k_int (by omega) (fun _ => rfl) (opens_int v_int)).mono fun l d h => by
    rcases h with ⟨rfl, rfl⟩ | ⟨es, rs, rfl, h⟩
    · exact ⟨.inl ⟨rfl, rfl⟩, by simp⟩
    · exact ⟨.inr ⟨es, rs, rfl, h.len⟩, h.left fun x y hq => inI_of hq.2⟩

theorem open_intS {r : Reach} {b0 : Nat} {v : Value} {d : DataW H} {p : List MemPlace} (h : DataW.Trod enc prog W 0 (fun _ => true) true 22 v d p) (hv : Value.okWide prog W r b0 22 v) :
    ∃ l : List Int, Rep W noCtx (iD l) v ∧ shapeI l d ∧ ∀ i ∈ l, inI i :=
  Opens.arg (f := fun l : List Int => iD l) opens_intS h (slice_cells v_ints hv) fun _ => rfl

theorem by_int : prog.bytesOf 3 = 8 := by kernel_rfl
theorem sized_ints {ts : List TypeId} {ds : List (DataW H)} (hsz : (DataW.weightsEach prog ts ds).all (· ≤ reachBytes) = true) {j : Nat} {d : DataW H} {l : List Int} (ht : ts[j]? = some 22) (hd : ds[j]? = some d) (hc : shapeI l d) :
    l.length * 8 ≤ 140737488351232 := by
  rcases hc with ⟨_, rfl⟩ | ⟨es, rs, rfl, hl⟩
  · simp
  · have h := sized_slice hsz ht hd v_ints
    rw [by_int] at h
    have : reachBytes = 140737488351232 := by decide
    omega

end

end Abs
end Go.Proofs.Ytokdeeagghhliaa
