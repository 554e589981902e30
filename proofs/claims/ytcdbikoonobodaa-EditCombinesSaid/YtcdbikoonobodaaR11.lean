/- Slices of whole numbers and edits, read out of the world, by their weights. -/
import Derived.Test.YtcdbikoonobodaaR1
import Derived.Test.YtcdbikoonobodaaD3
import Derived.KernelRfl
import Derived.WideShapes
import Derived.SizedLaws
namespace Go.Proofs.Ytcdbikoonobodaa
namespace Abs
set_option linter.unusedVariables false
set_option maxRecDepth 100000
open Go.Proofs.Ytcdbikoonobodaa.Rows (uptoBulk uptoBulkAll uptoSmall)

theorem v_int : prog.underlying 3 = some (.int .i64) := by kernel_rfl
theorem v_bool : prog.underlying 4 = some .bool := by kernel_rfl
theorem v_ints : prog.underlying 22 = some (.slice 3) := by kernel_rfl
theorem k_int : prog.cellsOf 3 = 1 := by kernel_rfl
theorem k_ints : prog.cellsOf 22 = 1 := by kernel_rfl
theorem k_edit : prog.cellsOf 24 = 3 := by kernel_rfl
theorem v_edit : fieldsOf prog 24 = some [(3, 0), (3, 1), (22, 2)] := by kernel_rfl

section
variable {H : Type} {enc : TypeId × Value → H} {W : World}

theorem slice_cells {r : Reach} {b0 : Nat} {t e : TypeId} {v : Value} (ht : prog.underlying t = some (.slice e)) (h : Value.okWide prog W r b0 t v) : v.cells = #[v] := by
  obtain ⟨a, len, cap, rfl⟩ := WideShapes.okWide_slice ht h
  rfl

theorem open_intL {r : Reach} {b0 : Nat} {v : Value} {d : DataW H} {p : List MemPlace} (h : DataW.Trod enc prog W 0 (fun _ => true) true 22 v d p) (hv : Value.okWide prog W r b0 22 v) :
    ∃ l : List Int, Rep W noCtx (iD l) v ∧ l.length ≤ uptoBulk d ∧ ∀ i ∈ l, inI i :=
  Opens.arg (f := fun l : List Int => iD l) (fun n => opens_ints v_ints v_int k_int) h (slice_cells v_ints hv) fun _ => rfl

theorem All2.len {X Y : Type} {Q : X → Y → Prop} {l : List X} {m : List Y} (h : All2 Q l m) : l.length = m.length := by
  induction h with
  | nil => rfl
  | cons _ _ ih => simp [ih]

def shapeI (l : List Int) (d : DataW H) : Prop := (d = .nil ∧ l = []) ∨ ∃ es rs, d = .slice es rs ∧ l.length = es.length

theorem opens_intS : ∀ n, Opens enc prog W n 22 (fun l : List Int => iD l) (fun l d => shapeI l d ∧ ∀ i ∈ l, inI i)
  | 0 => .zero
  | n + 1 => (opens_slice (sz := 1) v_ints k_int (by omega) (fun _ => rfl) (opens_int v_int)).mono fun l d h => by
    rcases h with ⟨rfl, rfl⟩ | ⟨es, rs, rfl, h⟩
    · exact ⟨.inl ⟨rfl, rfl⟩, by simp⟩
    · exact ⟨.inr ⟨es, rs, rfl, h.len⟩, h.left fun x y hq => inI_of hq.2⟩

theorem open_intS {r : Reach} {b0 : Nat} {v : Value} {d : DataW H} {p : List MemPlace} (h : DataW.Trod enc prog W 0 (fun _ => true) true 22 v d p) (hv : Value.okWide prog W r b0 22 v) :
    ∃ l : List Int, Rep W noCtx (iD l) v ∧ shapeI l d ∧ ∀ i ∈ l, inI i :=
  Opens.arg (f := fun l : List Int => iD l) opens_intS h (slice_cells v_ints hv) fun _ => rfl

theorem by_int : prog.bytesOf 3 = 8 := by kernel_rfl
theorem sized_ints {ts : List TypeId} {ds : List (DataW H)} (hsz : (DataW.weightsEach prog ts ds).all (· ≤ reachBytes) = true) {j : Nat} {d : DataW H} {l : List Int} (ht : ts[j]? = some 22) (hd : ds[j]? = some d) (hc : shapeI l d) :
    l.length * 8 ≤ 140737488351232 := by
  rcases hc with ⟨_, rfl⟩ | ⟨es, rs, rfl, hl⟩
  · simp
  · have h := sized_slice hsz ht hd v_ints
    rw [by_int] at h
    have : reachBytes = 140737488351232 := by decide
    omega

/-- an edit's reading, by the shape of its slice -/
def shapeE (e : Ed) (d : DataW H) : Prop := ∃ a b c, d = .agg [a, b, c] ∧ shapeI e.w c
theorem opens_edS : ∀ n, Opens enc prog W n 24 edD (fun e d => shapeE e d)
  | 0 => .zero
  | n + 1 => by
    intro cs d p h
    obtain ⟨xs, m, hm, hx, hl, hxs, hf⟩ := trod_fields v_edit h
    obtain rfl : n = m := by omega
    rw [k_edit] at hl
    obtain ⟨a0, a1, a2, rfl⟩ := len3 hl
    obtain ⟨x0, x1, x2, rfl⟩ := len3 hxs
    have g0 := hf 0 _ _ rfl
    have g1 := hf 1 _ _ rfl
    have g2 := hf 2 _ _ rfl
    rw [k_int] at g0
    rw [k_int] at g1
    rw [k_ints] at g2
    obtain ⟨f, hr, hq⟩ := opens_int v_int _ _ _ g0
    obtain ⟨t, hr1, hq1⟩ := opens_int v_int _ _ _ g1
    obtain ⟨l, hr2, hq2⟩ := opens_intS n _ _ _ g2
    refine ⟨⟨f, t, l⟩, ⟨rfl, fun j e v he hv => ?_⟩, _, _, _, hx, hq2.1⟩
    rcases j with _ | _ | _ | j
    · simp [edD, D.cells] at he hv; subst he; subst hv
      exact hr.2 0 _ _ rfl rfl
    · simp [edD, D.cells] at he hv; subst he; subst hv
      exact hr1.2 0 _ _ rfl rfl
    · simp [edD, D.cells] at he hv; subst he; subst hv
      exact hr2.2 0 _ _ rfl rfl
    · simp at hv
theorem open_edS {r : Reach} {b0 : Nat} {v : Value} {d : DataW H} {p : List MemPlace} (h : DataW.Trod enc prog W 0 (fun _ => true) true 24 v d p) (hv : Value.okWide prog W r b0 24 v) :
    ∃ e : Ed, Rep W noCtx (edD e) v ∧ shapeE e d := by
  obtain ⟨cs, rfl⟩ := okWide_struct v_edit hv
  exact Opens.arg_agg (g := fun e => (edD e).cells) (fun n => opens_edS n) h fun e => rfl
theorem sized_ed {ts : List TypeId} {ds : List (DataW H)} (hsz : (DataW.weightsEach prog ts ds).all (· ≤ reachBytes) = true) {j : Nat} {d : DataW H} {e : Ed} (ht : ts[j]? = some 24) (hd : ds[j]? = some d) (hc : shapeE e d) :
    e.w.length * 8 ≤ 140737488351232 := by
  obtain ⟨a, b, c, rfl, hs⟩ := hc
  obtain ⟨fs, hfs, hft⟩ : ∃ fs, prog.underlying 24 = some (.struct fs) ∧ fs.toList.map (·.type) = [3, 3, 22] := by
    have hv := v_edit
    unfold fieldsOf at hv
    split at hv
    · rename_i fs hfs
      refine ⟨fs, hfs, ?_⟩
      have := congrArg (List.map Prod.fst) (Option.some.inj hv)
      simpa [List.map_map, Function.comp_def] using this
    · cases hv
  have hw : (DataW.agg [a, b, c]).weights prog 24 = DataW.weightsEach prog [3, 3, 22] [a, b, c] := by
    rw [DataW.weights, hfs]
    simp only [hft]
  have hall : (DataW.weightsEach prog [3, 3, 22] [a, b, c]).all (· ≤ reachBytes) = true := by
    rw [List.all_eq_true] at hsz ⊢
    intro x hx
    rw [← hw] at hx
    exact hsz x (DataW.weights_mem_each ht hd x hx)
  exact sized_ints hall (j := 2) rfl rfl hs
end

end Abs
end Go.Proofs.Ytcdbikoonobodaa
