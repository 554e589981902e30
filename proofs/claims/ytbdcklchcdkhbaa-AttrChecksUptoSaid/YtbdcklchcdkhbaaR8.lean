/- Grammars, read out of the world. -/
import Derived.Test.YtbdcklchcdkhbaaR1
import Derived.Test.YtbdcklchcdkhbaaQ3
import Derived.KernelRfl
namespace Go.Proofs.Ytbdcklchcdkhbaa
namespace Abs
set_option linter.unusedVariables false
open Go.Proofs.Ytbdcklchcdkhbaa.Rows (uptoBulk uptoBulkAll uptoSmall)

theorem u_int : prog.underlying 3 = some (.int .i64) := by kernel_rfl
theorem v_int : prog.underlying 3 = some (.int .i64) := u_int
theorem u_bool : prog.underlying 4 = some .bool := by kernel_rfl
theorem c_int : prog.cellsOf 3 = 1 := by kernel_rfl
theorem v_bool : prog.underlying 4 = some .bool := u_bool
theorem w_syms : prog.underlying 54 = some (.slice 53) := by kernel_rfl
theorem w_rules : prog.underlying 22 = some (.slice 56) := by kernel_rfl
theorem c_bool : prog.cellsOf 4 = 1 := by kernel_rfl
theorem c_sym : prog.cellsOf 53 = 2 := by kernel_rfl
theorem c_syms : prog.cellsOf 54 = 1 := by kernel_rfl
theorem c_rule : prog.cellsOf 56 = 2 := by kernel_rfl
theorem c_rules : prog.cellsOf 22 = 1 := by kernel_rfl
theorem c_gram : prog.cellsOf 24 = 4 := by kernel_rfl
theorem w_sym : fieldsOf prog 53 = some [(4, 0), (3, 1)] := by kernel_rfl
theorem w_rule : fieldsOf prog 56 = some [(3, 0), (54, 1)] := by kernel_rfl
theorem w_gram : fieldsOf prog 24 = some [(3, 0), (3, 1), (3, 2), (22, 3)] := by kernel_rfl

section
variable {H : Type} {enc : TypeId × Value → H} {W : World}

theorem opens_sy : ∀ n, Opens enc prog W n 53 symD (fun s d => 1 ≤ uptoBulk d)
  | 0 => .zero
  | n + 1 => by
    intro cs d p h
    obtain ⟨xs, m, hm, hx, hl, hxs, hf⟩ := trod_fields w_sym h
    obtain rfl : n = m := by omega
    rw [c_sym] at hl
    obtain ⟨a0, a1, rfl⟩ := len2 hl
    obtain ⟨x0, x1, rfl⟩ := len2 hxs
    have g0 := hf 0 _ _ rfl
    have g1 := hf 1 _ _ rfl
    rw [c_bool] at g0
    rw [c_int] at g1
    obtain ⟨b, hr, hq⟩ := opens_bool u_bool _ _ _ g0
    obtain ⟨i, hr1, hq1⟩ := opens_int u_int _ _ _ g1
    refine ⟨⟨b, i⟩, ⟨rfl, fun j e v he hv => ?_⟩, ?_⟩
    · rcases j with _ | _ | j
      · simp [symD, D.cells] at he hv; subst he; subst hv
        exact hr.2 0 _ _ rfl rfl
      · simp [symD, D.cells] at he hv; subst he; subst hv
        exact hr1.2 0 _ _ rfl rfl
      · simp at hv
    · rw [hx]; show _ ≤ uptoBulk (.agg _); rw [uptoBulk_agg]; omega

theorem All2.count {X : Type} {l : List X} {m : List (DataW H)} (h : All2 (fun x d => 1 ≤ uptoBulk d) l m) : l.length ≤ uptoBulkAll m := by
  have := h.sum (g := fun _ => 1)
  have e : (l.map fun _ => 1).sum = l.length := by clear this h; induction l <;> simp_all; omega
  omega

theorem opens_sys : ∀ n, Opens enc prog W n 54 (fun l : List Sy => .lst (l.map symD)) (fun l d => l.length ≤ uptoBulk d)
  | 0 => .zero
  | n + 1 => (opens_slice (sz := 2) w_syms c_sym (by omega) symD_cells (opens_sy n)).mono fun l d h => by
    rcases h with ⟨rfl, rfl⟩ | ⟨es, rs, rfl, h⟩
    · simp
    · have := h.count
      rw [uptoBulk_slice]; omega

theorem opens_ru : ∀ n, Opens enc prog W n 56 ruleD (fun r d => 1 + r.right.length ≤ uptoBulk d)
  | 0 => .zero
  | n + 1 => by
    intro cs d p h
    obtain ⟨xs, m, hm, hx, hl, hxs, hf⟩ := trod_fields w_rule h
    obtain rfl : n = m := by omega
    rw [c_rule] at hl
    obtain ⟨a0, a1, rfl⟩ := len2 hl
    obtain ⟨x0, x1, rfl⟩ := len2 hxs
    have g0 := hf 0 _ _ rfl
    have g1 := hf 1 _ _ rfl
    rw [c_int] at g0
    rw [c_syms] at g1
    obtain ⟨i, hr, hq⟩ := opens_int u_int _ _ _ g0
    obtain ⟨l, hr1, hq1⟩ := opens_sys n _ _ _ g1
    refine ⟨⟨i, l⟩, ⟨rfl, fun j e v he hv => ?_⟩, ?_⟩
    · rcases j with _ | _ | j
      · simp [ruleD, D.cells] at he hv; subst he; subst hv
        exact hr.2 0 _ _ rfl rfl
      · simp [ruleD, D.cells] at he hv; subst he; subst hv
        exact hr1.2 0 _ _ rfl rfl
      · simp at hv
    · rw [hx]; show _ ≤ uptoBulk (.agg _); rw [uptoBulk_agg]
      simp only [List.map_cons, List.map_nil, uptoBulkAll_cons, uptoBulkAll_nil]
      omega

def bulkR (l : List Ru) : Nat := (l.map fun r => 1 + r.right.length).sum
theorem opens_rus : ∀ n, Opens enc prog W n 22 (fun l : List Ru => .lst (l.map ruleD)) (fun l d => bulkR l ≤ uptoBulk d)
  | 0 => .zero
  | n + 1 => (opens_slice (sz := 2) w_rules c_rule (by omega) ruleD_cells (opens_ru n)).mono fun l d h => by
    rcases h with ⟨rfl, rfl⟩ | ⟨es, rs, rfl, h⟩
    · simp [bulkR]
    · have := h.sum (g := fun r : Ru => 1 + r.right.length)
      rw [uptoBulk_slice]
      unfold bulkR
      omega

theorem bulkR_le (l : List Ru) : l.length ≤ bulkR l ∧ ∀ r ∈ l, r.right.length ≤ bulkR l := by
  induction l with
  | nil => simp [bulkR]
  | cons x l ih =>
    obtain ⟨h1, h2⟩ := ih
    have e : bulkR (x :: l) = 1 + x.right.length + bulkR l := rfl
    rw [e]
    refine ⟨by simp; omega, fun r hr => ?_⟩
    rcases List.mem_cons.1 hr with rfl | hr
    · omega
    · have := h2 r hr; omega

theorem opens_gr : ∀ n, Opens enc prog W n 24 gramD (fun g d => bulkR g.rules ≤ uptoBulk d)
  | 0 => .zero
  | n + 1 => by
    intro cs d p h
    obtain ⟨xs, m, hm, hx, hl, hxs, hf⟩ := trod_fields w_gram h
    obtain rfl : n = m := by omega
    rw [c_gram] at hl
    obtain ⟨a0, a1, a2, a3, rfl⟩ := len4 hl
    obtain ⟨x0, x1, x2, x3, rfl⟩ := len4 hxs
    have g0 := hf 0 _ _ rfl
    have g1 := hf 1 _ _ rfl
    have g2 := hf 2 _ _ rfl
    have g3 := hf 3 _ _ rfl
    rw [c_int] at g0 g1 g2
    rw [c_rules] at g3
    obtain ⟨i, hr, hq⟩ := opens_int u_int _ _ _ g0
    obtain ⟨i1, hr1, hq1⟩ := opens_int u_int _ _ _ g1
    obtain ⟨i2, hr2, hq2⟩ := opens_int u_int _ _ _ g2
    obtain ⟨l, hr3, hq3⟩ := opens_rus n _ _ _ g3
    refine ⟨⟨i, i1, i2, l⟩, ⟨rfl, fun j e v he hv => ?_⟩, ?_⟩
    · rcases j with _ | _ | _ | _ | j
      · simp [gramD, D.cells] at he hv; subst he; subst hv
        exact hr.2 0 _ _ rfl rfl
      · simp [gramD, D.cells] at he hv; subst he; subst hv
        exact hr1.2 0 _ _ rfl rfl
      · simp [gramD, D.cells] at he hv; subst he; subst hv
        exact hr2.2 0 _ _ rfl rfl
      · simp [gramD, D.cells] at he hv; subst he; subst hv
        exact hr3.2 0 _ _ rfl rfl
      · simp at hv
    · rw [hx]; show _ ≤ uptoBulk (.agg _); rw [uptoBulk_agg]
      simp only [List.map_cons, List.map_nil, uptoBulkAll_cons, uptoBulkAll_nil]
      have := hq3
      omega

theorem open_gram {v : Value} {d : DataW H} {p : List MemPlace} (h : DataW.Trod enc prog W 0 (fun _ => true) true 24 v d p) (hv : ∃ cs, v = .agg cs) :
    ∃ g : Gr, Rep W noCtx (gramD g) v ∧ bulkR g.rules ≤ uptoBulk d ∧ True := by
  obtain ⟨cs, rfl⟩ := hv
  obtain ⟨g, h1, h2⟩ := Opens.arg_agg (g := fun g => (gramD g).cells) opens_gr h fun g => rfl
  exact ⟨g, h1, h2, trivial⟩
end

end Abs
end Go.Proofs.Ytbdcklchcdkhbaa
