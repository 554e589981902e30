/- Costs and slices of operations, read out of the world. -/
import Derived.Test.YtfojedaccfenfaaR3
import Derived.Test.YtfojedaccfenfaaK3
import Derived.OpenShut
namespace Go.Proofs.Ytfojedaccfenfaa
namespace Abs
set_option linter.unusedVariables false
set_option maxRecDepth 100000
open Go.Proofs.Ytfojedaccfenfaa.Rows (uptoBulk uptoBulkAll uptoSmall)

theorem v_cost : prog.underlying 78 = some (.array 3 3) := by kernel_rfl
theorem k_cost : prog.cellsOf 78 = 3 := by kernel_rfl
theorem k_ope : prog.cellsOf 86 = 3 := by kernel_rfl
theorem v_ope : fieldsOf prog 86 = some [(3, 0), (3, 1), (3, 2)] := by kernel_rfl
theorem v_opes : prog.underlying 79 = some (.slice 86) := by kernel_rfl
theorem by_ope : prog.bytesOf 86 = 24 := by kernel_rfl

section
variable {H : Type} {enc : TypeId × Value → H} {W : World}

theorem opens_co : ∀ n, Opens enc prog W n 78 coD (fun _ _ => True)
  | 0 => .zero
  | n + 1 => by
    intro cs d p h
    obtain ⟨xs, m, hm, hx, hl, hxs, hf⟩ := DataW.trod_array v_cost h
    obtain rfl : n = m := by omega
    rw [k_cost] at hl
    obtain ⟨a0, a1, a2, rfl⟩ := len3 hl
    obtain ⟨x0, x1, x2, rfl⟩ := len3 hxs
    have g0 := hf 0 (by omega)
    have g1 := hf 1 (by omega)
    have g2 := hf 2 (by omega)
    rw [k_int] at g0 g1 g2
    obtain ⟨f, hr, hq⟩ := opens_int v_int _ _ _ g0
    obtain ⟨t, hr1, hq1⟩ := opens_int v_int _ _ _ g1
    obtain ⟨l, hr2, hq2⟩ := opens_int v_int _ _ _ g2
    refine ⟨⟨f, t, l⟩, ⟨rfl, fun j e v he hv => ?_⟩, trivial⟩
    rcases j with _ | _ | _ | j
    · simp [coD, D.cells] at he hv; subst he; subst hv
      exact hr.2 0 _ _ rfl rfl
    · simp [coD, D.cells] at he hv; subst he; subst hv
      exact hr1.2 0 _ _ rfl rfl
    · simp [coD, D.cells] at he hv; subst he; subst hv
      exact hr2.2 0 _ _ rfl rfl
    · simp at hv

theorem opens_ope : ∀ n, Opens enc prog W n 86 opeD (fun _ _ => True)
  | 0 => .zero
  | n + 1 => by
    intro cs d p h
    obtain ⟨xs, m, hm, hx, hl, hxs, hf⟩ := trod_fields v_ope h
    obtain rfl : n = m := by omega
    rw [k_ope] at hl
    obtain ⟨a0, a1, a2, rfl⟩ := len3 hl
    obtain ⟨x0, x1, x2, rfl⟩ := len3 hxs
    have g0 := hf 0 _ _ rfl
    have g1 := hf 1 _ _ rfl
    have g2 := hf 2 _ _ rfl
    rw [k_int] at g0 g1 g2
    obtain ⟨f, hr, hq⟩ := opens_int v_int _ _ _ g0
    obtain ⟨t, hr1, hq1⟩ := opens_int v_int _ _ _ g1
    obtain ⟨l, hr2, hq2⟩ := opens_int v_int _ _ _ g2
    refine ⟨⟨f, t, l⟩, ⟨rfl, fun j e v he hv => ?_⟩, trivial⟩
    rcases j with _ | _ | _ | j
    · simp [opeD, D.cells] at he hv; subst he; subst hv
      exact hr.2 0 _ _ rfl rfl
    · simp [opeD, D.cells] at he hv; subst he; subst hv
      exact hr1.2 0 _ _ rfl rfl
    · simp [opeD, D.cells] at he hv; subst he; subst hv
      exact hr2.2 0 _ _ rfl rfl
    · simp at hv

def shapeO (l : List Ope) (d : DataW H) : Prop := (d = .nil ∧ l = []) ∨ ∃ es rs, d = .slice es rs ∧ l.length = es.length
theorem opens_opes : ∀ n, Opens enc prog W n 79 (fun l : List Ope => .lst (l.map opeD)) shapeO
  | 0 => .zero
  | n + 1 => (opens_slice (sz := 3) v_opes k_ope (by omega) (fun _ => rfl) (opens_ope n)).mono fun l d h => by
    rcases h with ⟨rfl, rfl⟩ | ⟨es, rs, rfl, h⟩
    · exact .inl ⟨rfl, rfl⟩
    · exact .inr ⟨es, rs, rfl, h.len⟩

theorem open_co {r : Reach} {b0 : Nat} {v : Value} {d : DataW H} {p : List MemPlace} (h : DataW.Trod enc prog W 0 (fun _ => true) true 78 v d p) (hv : Value.okWide prog W r b0 78 v) :
    ∃ q : Co, Rep W noCtx (coD q) v := by
  have ha : ∃ cs, v = .agg cs := by
    unfold Value.okWide at hv
    rw [v_cost] at hv
    obtain ⟨cs, rfl, _⟩ := hv
    exact ⟨cs, rfl⟩
  obtain ⟨cs, rfl⟩ := ha
  obtain ⟨q, h1, _⟩ := Opens.arg_agg (g := fun q => (coD q).cells) (fun n => opens_co n) h fun q => rfl
  exact ⟨q, h1⟩
theorem open_opes {r : Reach} {b0 : Nat} {v : Value} {d : DataW H} {p : List MemPlace} (h : DataW.Trod enc prog W 0 (fun _ => true) true 79 v d p) (hv : Value.okWide prog W r b0 79 v) :
    ∃ l : List Ope, Rep W noCtx (.lst (l.map opeD)) v ∧ shapeO l d :=
  Opens.arg (f := fun l : List Ope => .lst (l.map opeD)) opens_opes h (slice_cells v_opes hv) fun _ => rfl
theorem sized_opes {ts : List TypeId} {ds : List (DataW H)} (hsz : (DataW.weightsEach prog ts ds).all (· ≤ reachBytes) = true) {j : Nat} {d : DataW H} {l : List Ope} (ht : ts[j]? = some 79) (hd : ds[j]? = some d) (hc : shapeO l d) :
    l.length * 24 ≤ 140737488351232 := by
  rcases hc with ⟨_, rfl⟩ | ⟨es, rs, rfl, hl⟩
  · simp
  · have h := sized_slice hsz ht hd v_opes
    rw [by_ope] at h
    have : reachBytes = 140737488351232 := by decide
    omega
end

end Abs
end Go.Proofs.Ytfojedaccfenfaa
