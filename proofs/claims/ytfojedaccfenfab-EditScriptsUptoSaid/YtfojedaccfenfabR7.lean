/- Lists of edits, read out of the world. -/
import Derived.Test.YtfojedaccfenfabR3
import Derived.Test.YtfojedaccfenfabU5
namespace Go.Proofs.Ytfojedaccfenfab
namespace Abs
set_option linter.unusedVariables false
set_option maxRecDepth 100000
open Go.Proofs.Ytfojedaccfenfab.Rows (uptoBulk uptoBulkAll uptoSmall)

theorem v_eds : prog.underlying 38 = some (.slice 24) := by kernel_rfl

section
variable {H : Type} {enc : TypeId × Value → H} {W : World}

/-- an edit's bulk: its two numbers, its slice of numbers, itself -/
theorem opens_edB : ∀ n, Opens enc prog W n 24 edD (fun e d => e.w.length + 1 ≤ uptoBulk d)
  | 0 => .zero
  | n + 1 => by
    intro cs d p h
    obtain ⟨xs, m, hm, hx, hl, hxs, hf⟩ := trod_fields v_edit h
    obtain rfl : n = m := by omega
    rw [k_edit] at hl
    obtain ⟨a0, a1, a2, rfl⟩ := len3 hl
    obtain ⟨x0, x1, x2, rfl⟩ := len3 hxs
    have g0 := hf 0 _ _ rfl
    have g1 := hf 1 _ _ rfl
    have g2 := hf 2 _ _ rfl
    rw [k_int] at g0
    rw [k_int] at g1
    rw [k_ints] at g2
    obtain ⟨f, hr, hq⟩ := opens_int v_int _ _ _ g0
    obtain ⟨t, hr1, hq1⟩ := opens_int v_int _ _ _ g1
    obtain ⟨l, hr2, hq2⟩ := opens_ints v_ints v_int k_int _ _ _ g2
    refine ⟨⟨f, t, l⟩, ⟨rfl, fun j e v he hv => ?_⟩, ?_⟩
    · rcases j with _ | _ | _ | j
      · simp [edD, D.cells] at he hv; subst he; subst hv
        exact hr.2 0 _ _ rfl rfl
      · simp [edD, D.cells] at he hv; subst he; subst hv
        exact hr1.2 0 _ _ rfl rfl
      · simp [edD, D.cells] at he hv; subst he; subst hv
        exact hr2.2 0 _ _ rfl rfl
      · simp at hv
    · rw [hx]
      show l.length + 1 ≤ _
      rw [uptoBulk_agg]
      simp only [List.map_cons, List.map_nil, uptoBulkAll_cons, uptoBulkAll_nil]
      have := hq2.1
      omega

theorem sum_eds (l : List Ed) : (l.map fun e => e.w.length + 1).sum = newK l + l.length := by
  induction l with
  | nil => rfl
  | cons e l ih =>
    simp only [List.map_cons, List.sum_cons, newK, List.length_cons] at ih ⊢
    omega

theorem opens_eds : ∀ n, Opens enc prog W n 38 (fun l : List Ed => .lst (l.map edD)) (fun l d => newK l + l.length ≤ uptoBulk d)
  | 0 => .zero
  | n + 1 => (opens_slice (sz := 3) v_eds k_edit (by omega) (fun _ => rfl) (opens_edB n)).mono fun l d h => by
    rcases h with ⟨rfl, rfl⟩ | ⟨es, rs, rfl, h⟩
    · simp [newK]
    · have := h.sum (g := fun e : Ed => e.w.length + 1)
      rw [sum_eds] at this
      rw [uptoBulk_slice]; omega

theorem open_eds' {r : Reach} {b0 : Nat} {v : Value} {d : DataW H} {p : List MemPlace} (h : DataW.Trod enc prog W 0 (fun _ => true) true 38 v d p) (hv : Value.okWide prog W r b0 38 v) :
    ∃ l : List Ed, Rep W noCtx (.lst (l.map edD)) v ∧ newK l + l.length ≤ uptoBulk d :=
  Opens.arg (f := fun l : List Ed => .lst (l.map edD)) opens_eds h (slice_cells v_eds hv) fun _ => rfl
end

end Abs
end Go.Proofs.Ytfojedaccfenfab
