/- Trees, read out of the world. -/
import Derived.Test.YtfojedaccfenfaaR1
import Derived.Test.YtfojedaccfenfaaE1
import Derived.KernelRfl
namespace Go.Proofs.Ytfojedaccfenfaa
namespace Abs
set_option linter.unusedVariables false
open Go.Proofs.Ytfojedaccfenfaa.Rows (uptoBulk uptoBulkAll uptoSmall)

theorem u_int : prog.underlying 3 = some (.int .i64) := by kernel_rfl
theorem u_bool : prog.underlying 4 = some .bool := by kernel_rfl
theorem u_ints : prog.underlying 22 = some (.slice 3) := by kernel_rfl
theorem c_int : prog.cellsOf 3 = 1 := by kernel_rfl
theorem u_trees : prog.underlying 24 = some (.slice 26) := by kernel_rfl
theorem c_tree : prog.cellsOf 26 = 3 := by kernel_rfl
theorem c_trees : prog.cellsOf 24 = 1 := by kernel_rfl
theorem u_tree : fieldsOf prog 26 = some [(3, 0), (3, 1), (24, 2)] := by kernel_rfl

def Tree.ok : Tree → Prop
  | .mk r t ks => inI r ∧ inI t ∧ ∀ k ∈ ks, k.ok

theorem Tree.ok_mk {r t : Int} {ks : List Tree} : (Tree.mk r t ks).ok ↔ inI r ∧ inI t ∧ ∀ k ∈ ks, k.ok := by
  rw [Tree.ok]

/-- how much of a reading a tree takes, at least -/
def bulk : Tree → Nat
  | .mk _ _ ks => 4 + (ks.map bulk).sum
theorem bulk_mk (r t : Int) (ks : List Tree) : bulk (.mk r t ks) = 4 + (ks.map bulk).sum := by rw [bulk]

theorem size_le_bulk : ∀ t : Tree, size t ≤ bulk t
  | .mk r _ ks => by
    rw [size_mk, bulk_mk]
    have h : ∀ l : List Tree, (∀ k ∈ l, size k ≤ bulk k) → (l.map size).sum ≤ (l.map bulk).sum := by
      intro l
      induction l with
      | nil => intro _; exact Nat.le_refl _
      | cons k l ih =>
        intro hl
        have := ih fun k hk => hl k (by simp [hk])
        have := hl k (by simp)
        simp only [List.map_cons, List.sum_cons]; omega
    have := h ks fun k hk => size_le_bulk k
    split <;> omega

section
variable {H : Type} {enc : TypeId × Value → H} {W : World}

theorem opens_trees : ∀ n, Opens enc prog W n 26 treeD (fun t d => bulk t ≤ uptoBulk d ∧ t.ok) ∧
    Opens enc prog W n 24 (fun ks : List Tree => .lst (ks.map treeD)) (fun ks d => 1 + (ks.map bulk).sum ≤ uptoBulk d ∧ ∀ k ∈ ks, k.ok)
  | 0 => ⟨.zero, .zero⟩
  | n + 1 => by
    obtain ⟨ih1, ih2⟩ := opens_trees n
    refine ⟨fun cs d p h => ?_, ?_⟩
    · obtain ⟨xs, m, hm, hx, hl, hxs, hf⟩ := trod_fields u_tree h
      obtain rfl : n = m := by omega
      rw [c_tree] at hl
      obtain ⟨a0, a1, a2, rfl⟩ := len3 hl
      obtain ⟨x0, x1, x2, rfl⟩ := len3 hxs
      have g0 := hf 0 _ _ rfl
      have g1 := hf 1 _ _ rfl
      have g2 := hf 2 _ _ rfl
      rw [c_int] at g0
      rw [c_int] at g1
      rw [c_trees] at g2
      obtain ⟨r, hr, hq⟩ := opens_int u_int _ _ _ g0
      obtain ⟨t, hr1, hq1⟩ := opens_int u_int _ _ _ g1
      obtain ⟨ks, hr2, hq2⟩ := ih2 _ _ _ g2
      refine ⟨.mk r t ks, ?_, ?_, ?_⟩
      · rw [treeD_mk]
        refine ⟨rfl, fun j e v he hv => ?_⟩
        rcases j with _ | _ | _ | j
        · simp [D.cells] at he hv; subst he; subst hv
          exact hr.2 0 _ _ rfl rfl
        · simp [D.cells] at he hv; subst he; subst hv
          exact hr1.2 0 _ _ rfl rfl
        · simp [D.cells] at he hv; subst he; subst hv
          exact hr2.2 0 _ _ rfl rfl
        · simp at hv
      · rw [hx, bulk_mk, uptoBulk_agg]
        simp only [List.map_cons, List.map_nil, uptoBulkAll_cons, uptoBulkAll_nil]
        rw [hq.1, hq1.1, uptoBulk_int, uptoBulk_int]
        have := hq2.1
        omega
      · exact Tree.ok_mk.2 ⟨inI_of hq.2, inI_of hq1.2, hq2.2⟩
    · refine (opens_slice (sz := 3) u_trees c_tree (by omega) treeD_cells ih1).mono fun ks d h => ?_
      rcases h with ⟨rfl, rfl⟩ | ⟨es, rs, rfl, h⟩
      · simp [uptoBulk_nil]
      · refine ⟨?_, h.left fun x y hq => hq.2⟩
        have h1 := (h.imp (Q' := fun x d => bulk x ≤ uptoBulk d) fun x y hq => hq.1).sum (g := bulk)
        rw [uptoBulk_slice]
        omega

theorem open_tree {v : Value} {d : DataW H} {p : List MemPlace} (h : DataW.Trod enc prog W 0 (fun _ => true) true 26 v d p) (hv : ∃ cs, v = .agg cs) :
    ∃ t : Tree, Rep W noCtx (treeD t) v ∧ bulk t ≤ uptoBulk d ∧ t.ok := by
  obtain ⟨cs, rfl⟩ := hv
  exact Opens.arg_agg (g := fun t => (treeD t).cells) (fun n => (opens_trees n).1) h fun t => by cases t; rw [treeD_mk]; rfl
end

end Abs
end Go.Proofs.Ytfojedaccfenfaa
