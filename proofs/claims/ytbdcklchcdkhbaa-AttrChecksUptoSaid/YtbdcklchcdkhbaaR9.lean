/- Systems of attributes, read out of the world. -/
import Derived.Test.YtbdcklchcdkhbaaR8
import Derived.Test.YtbdcklchcdkhbaaQ6
namespace Go.Proofs.Ytbdcklchcdkhbaa
namespace Abs
set_option linter.unusedVariables false
set_option maxRecDepth 100000
open Go.Proofs.Ytbdcklchcdkhbaa.Rows (uptoBulk uptoBulkAll uptoSmall)

theorem w_ref : fieldsOf prog 30 = some [(3, 0), (3, 1)] := by kernel_rfl
theorem c_ref : prog.cellsOf 30 = 2 := by kernel_rfl
theorem w_exs : prog.underlying 37 = some (.slice 39) := by kernel_rfl
theorem c_ex : prog.cellsOf 39 = 5 := by kernel_rfl
theorem c_exs : prog.cellsOf 37 = 1 := by kernel_rfl
theorem w_ex : fieldsOf prog 39 = some [(3, 0), (3, 1), (30, 2), (37, 4)] := by kernel_rfl
theorem w_eq : fieldsOf prog 41 = some [(3, 0), (30, 1), (39, 3)] := by kernel_rfl
theorem c_eq : prog.cellsOf 41 = 8 := by kernel_rfl
theorem w_eqs : prog.underlying 26 = some (.slice 41) := by kernel_rfl
theorem c_eqs : prog.cellsOf 26 = 1 := by kernel_rfl
theorem w_at : fieldsOf prog 36 = some [(3, 0), (4, 1)] := by kernel_rfl
theorem c_at : prog.cellsOf 36 = 2 := by kernel_rfl
theorem w_ats : prog.underlying 25 = some (.slice 36) := by kernel_rfl
theorem c_ats : prog.cellsOf 25 = 1 := by kernel_rfl
theorem w_sys : fieldsOf prog 28 = some [(25, 0), (26, 1)] := by kernel_rfl
theorem c_sys : prog.cellsOf 28 = 2 := by kernel_rfl

theorem len5 {X : Type} {l : List X} (h : l.length = 5) : ∃ a b c d e, l = [a, b, c, d, e] := by
  match l, h with
  | [a, b, c, d, e], _ => exact ⟨a, b, c, d, e, rfl⟩
theorem len8 {X : Type} {l : List X} (h : l.length = 8) : ∃ a b c d e f g i, l = [a, b, c, d, e, f, g, i] := by
  match l, h with
  | [a, b, c, d, e, f, g, i], _ => exact ⟨a, b, c, d, e, f, g, i, rfl⟩

section
variable {H : Type} {enc : TypeId × Value → H} {W : World}

def pairD (p : Int × Int) : D := .agg [.int .i64 p.1, .int .i64 p.2]
theorem opens_ref : ∀ n, Opens enc prog W n 30 pairD (fun s d => 1 ≤ uptoBulk d)
  | 0 => .zero
  | n + 1 => by
    intro cs d p h
    obtain ⟨xs, m, hm, hx, hl, hxs, hf⟩ := trod_fields w_ref h
    obtain rfl : n = m := by omega
    rw [c_ref] at hl
    obtain ⟨a0, a1, rfl⟩ := len2 hl
    obtain ⟨x0, x1, rfl⟩ := len2 hxs
    have g0 := hf 0 _ _ rfl
    have g1 := hf 1 _ _ rfl
    rw [c_int] at g0 g1
    obtain ⟨i, hr, hq⟩ := opens_int u_int _ _ _ g0
    obtain ⟨i1, hr1, hq1⟩ := opens_int u_int _ _ _ g1
    refine ⟨(i, i1), ⟨rfl, fun j e v he hv => ?_⟩, ?_⟩
    · rcases j with _ | _ | j
      · simp [pairD, D.cells] at he hv; subst he; subst hv
        exact hr.2 0 _ _ rfl rfl
      · simp [pairD, D.cells] at he hv; subst he; subst hv
        exact hr1.2 0 _ _ rfl rfl
      · simp at hv
    · rw [hx]; show _ ≤ uptoBulk (.agg _); rw [uptoBulk_agg]; omega

theorem opens_ex : ∀ n, Opens enc prog W n 39 exD (fun x d => sz x ≤ uptoBulk d) ∧
    Opens enc prog W n 37 (fun ks : List Ex => .lst (ks.map exD)) (fun ks d => (ks.map sz).sum ≤ uptoBulk d)
  | 0 => ⟨.zero, .zero⟩
  | n + 1 => by
    obtain ⟨ih1, ih2⟩ := opens_ex n
    refine ⟨fun cs d p h => ?_, ?_⟩
    · obtain ⟨xs, m, hm, hx, hl, hxs, hf⟩ := trod_fields w_ex h
      obtain rfl : n = m := by omega
      rw [c_ex] at hl
      obtain ⟨a0, a1, a2, a3, a4, rfl⟩ := len5 hl
      obtain ⟨x0, x1, x2, x3, rfl⟩ := len4 hxs
      have g0 := hf 0 _ _ rfl
      have g1 := hf 1 _ _ rfl
      have g2 := hf 2 _ _ rfl
      have g3 := hf 3 _ _ rfl
      rw [c_int] at g0 g1
      rw [c_ref] at g2
      rw [c_exs] at g3
      obtain ⟨k, hr, hq⟩ := opens_int u_int _ _ _ g0
      obtain ⟨m', hr1, hq1⟩ := opens_int u_int _ _ _ g1
      obtain ⟨⟨a, r⟩, hr2, hq2⟩ := opens_ref n _ _ _ g2
      obtain ⟨ks, hr3, hq3⟩ := ih2 _ _ _ g3
      refine ⟨.mk k m' a r ks, ?_, ?_⟩
      · rw [exD_mk]
        refine ⟨rfl, fun j e v he hv => ?_⟩
        rcases j with _ | _ | _ | _ | _ | j
        · simp [D.cells] at he hv; subst he; subst hv
          exact hr.2 0 _ _ rfl rfl
        · simp [D.cells] at he hv; subst he; subst hv
          exact hr1.2 0 _ _ rfl rfl
        · simp [D.cells] at he hv; subst he; subst hv
          exact hr2.2 0 _ _ rfl rfl
        · simp [D.cells] at he hv; subst he; subst hv
          exact hr2.2 1 _ _ rfl rfl
        · simp [D.cells] at he hv; subst he; subst hv
          exact hr3.2 0 _ _ rfl rfl
        · simp at hv
      · rw [hx]; show sz _ ≤ uptoBulk (.agg _); rw [sz_mk, uptoBulk_agg]
        simp only [List.map_cons, List.map_nil, uptoBulkAll_cons, uptoBulkAll_nil]
        omega
    · refine (opens_slice (sz := 5) w_exs c_ex (by omega) exD_cells ih1).mono fun ks d h => ?_
      rcases h with ⟨rfl, rfl⟩ | ⟨es, rs, rfl, h⟩
      · simp
      · have h1 := h.sum (g := sz)
        rw [uptoBulk_slice]
        omega

theorem opens_eqn : ∀ n, Opens enc prog W n 41 eqD (fun q d => sz q.is ≤ uptoBulk d)
  | 0 => .zero
  | n + 1 => by
    intro cs d p h
    obtain ⟨xs, m, hm, hx, hl, hxs, hf⟩ := trod_fields w_eq h
    obtain rfl : n = m := by omega
    rw [c_eq] at hl
    obtain ⟨a0, a1, a2, a3, a4, a5, a6, a7, rfl⟩ := len8 hl
    obtain ⟨x0, x1, x2, rfl⟩ := len3 hxs
    have g0 := hf 0 _ _ rfl
    have g1 := hf 1 _ _ rfl
    have g2 := hf 2 _ _ rfl
    rw [c_int] at g0
    rw [c_ref] at g1
    rw [c_ex] at g2
    obtain ⟨u, hr, hq⟩ := opens_int u_int _ _ _ g0
    obtain ⟨⟨v', w⟩, hr1, hq1⟩ := opens_ref n _ _ _ g1
    obtain ⟨⟨k, m', a, r, ks⟩, hr2, hq2⟩ := (opens_ex n).1 _ _ _ g2
    rw [exD_mk] at hr2
    refine ⟨⟨u, v', w, .mk k m' a r ks⟩, ?_, ?_⟩
    · show RepA W _ (.agg [.int .i64 u, .int .i64 v', .int .i64 w, .int .i64 k, .int .i64 m', .int .i64 a, .int .i64 r, .lst (ks.map exD)])
      refine ⟨rfl, fun j e v he hv => ?_⟩
      rcases j with _ | _ | _ | _ | _ | _ | _ | _ | j
      · simp [D.cells] at he hv; subst he; subst hv
        exact hr.2 0 _ _ rfl rfl
      · simp [D.cells] at he hv; subst he; subst hv
        exact hr1.2 0 _ _ rfl rfl
      · simp [D.cells] at he hv; subst he; subst hv
        exact hr1.2 1 _ _ rfl rfl
      · simp [D.cells] at he hv; subst he; subst hv
        exact hr2.2 0 _ _ rfl rfl
      · simp [D.cells] at he hv; subst he; subst hv
        exact hr2.2 1 _ _ rfl rfl
      · simp [D.cells] at he hv; subst he; subst hv
        exact hr2.2 2 _ _ rfl rfl
      · simp [D.cells] at he hv; subst he; subst hv
        exact hr2.2 3 _ _ rfl rfl
      · simp [D.cells] at he hv; subst he; subst hv
        exact hr2.2 4 _ _ rfl rfl
      · simp at hv
    · rw [hx]; show _ ≤ uptoBulk (.agg _); rw [uptoBulk_agg]
      simp only [List.map_cons, List.map_nil, uptoBulkAll_cons, uptoBulkAll_nil]
      omega

def bulkE (l : List Eqn) : Nat := (l.map fun q => sz q.is).sum
theorem bulkE_le (l : List Eqn) : l.length ≤ bulkE l ∧ ∀ q ∈ l, sz q.is ≤ bulkE l := by
  induction l with
  | nil => simp [bulkE]
  | cons x l ih =>
    obtain ⟨h1, h2⟩ := ih
    have e : bulkE (x :: l) = sz x.is + bulkE l := rfl
    have := sz_pos x.is
    rw [e]
    refine ⟨by simp; omega, fun q hq => ?_⟩
    rcases List.mem_cons.1 hq with rfl | hq
    · omega
    · have := h2 q hq; omega

theorem opens_eqns : ∀ n, Opens enc prog W n 26 (fun l : List Eqn => .lst (l.map eqD)) (fun l d => bulkE l ≤ uptoBulk d)
  | 0 => .zero
  | n + 1 => (opens_slice (sz := 8) w_eqs c_eq (by omega) eqD_cells (opens_eqn n)).mono fun l d h => by
    rcases h with ⟨rfl, rfl⟩ | ⟨es, rs, rfl, h⟩
    · simp [bulkE]
    · have := h.sum (g := fun q : Eqn => sz q.is)
      rw [uptoBulk_slice]
      unfold bulkE
      omega

theorem opens_at : ∀ n, Opens enc prog W n 36 atD (fun s d => 1 ≤ uptoBulk d)
  | 0 => .zero
  | n + 1 => by
    intro cs d p h
    obtain ⟨xs, m, hm, hx, hl, hxs, hf⟩ := trod_fields w_at h
    obtain rfl : n = m := by omega
    rw [c_at] at hl
    obtain ⟨a0, a1, rfl⟩ := len2 hl
    obtain ⟨x0, x1, rfl⟩ := len2 hxs
    have g0 := hf 0 _ _ rfl
    have g1 := hf 1 _ _ rfl
    rw [c_int] at g0
    rw [c_bool] at g1
    obtain ⟨i, hr, hq⟩ := opens_int u_int _ _ _ g0
    obtain ⟨b, hr1, hq1⟩ := opens_bool u_bool _ _ _ g1
    refine ⟨⟨i, b⟩, ⟨rfl, fun j e v he hv => ?_⟩, ?_⟩
    · rcases j with _ | _ | j
      · simp [atD, D.cells] at he hv; subst he; subst hv
        exact hr.2 0 _ _ rfl rfl
      · simp [atD, D.cells] at he hv; subst he; subst hv
        exact hr1.2 0 _ _ rfl rfl
      · simp at hv
    · rw [hx]; show _ ≤ uptoBulk (.agg _); rw [uptoBulk_agg]; omega
theorem opens_ats : ∀ n, Opens enc prog W n 25 (fun l : List At => .lst (l.map atD)) (fun l d => l.length ≤ uptoBulk d)
  | 0 => .zero
  | n + 1 => (opens_slice (sz := 2) w_ats c_at (by omega) atD_cells (opens_at n)).mono fun l d h => by
    rcases h with ⟨rfl, rfl⟩ | ⟨es, rs, rfl, h⟩
    · simp
    · have := h.count
      rw [uptoBulk_slice]; omega

theorem opens_system : ∀ n, Opens enc prog W n 28 sysD (fun s d => s.attrs.length + bulkE s.eqs ≤ uptoBulk d)
  | 0 => .zero
  | n + 1 => by
    intro cs d p h
    obtain ⟨xs, m, hm, hx, hl, hxs, hf⟩ := trod_fields w_sys h
    obtain rfl : n = m := by omega
    rw [c_sys] at hl
    obtain ⟨a0, a1, rfl⟩ := len2 hl
    obtain ⟨x0, x1, rfl⟩ := len2 hxs
    have g0 := hf 0 _ _ rfl
    have g1 := hf 1 _ _ rfl
    rw [c_ats] at g0
    rw [c_eqs] at g1
    obtain ⟨l, hr, hq⟩ := opens_ats n _ _ _ g0
    obtain ⟨l1, hr1, hq1⟩ := opens_eqns n _ _ _ g1
    refine ⟨⟨l, l1⟩, ⟨rfl, fun j e v he hv => ?_⟩, ?_⟩
    · rcases j with _ | _ | j
      · simp [sysD, D.cells] at he hv; subst he; subst hv
        exact hr.2 0 _ _ rfl rfl
      · simp [sysD, D.cells] at he hv; subst he; subst hv
        exact hr1.2 0 _ _ rfl rfl
      · simp at hv
    · rw [hx]; show _ ≤ uptoBulk (.agg _); rw [uptoBulk_agg]
      simp only [List.map_cons, List.map_nil, uptoBulkAll_cons, uptoBulkAll_nil]
      omega

theorem open_system {v : Value} {d : DataW H} {p : List MemPlace} (h : DataW.Trod enc prog W 0 (fun _ => true) true 28 v d p) (hv : ∃ cs, v = .agg cs) :
    ∃ s : Sys, Rep W noCtx (sysD s) v ∧ s.attrs.length + bulkE s.eqs ≤ uptoBulk d ∧ True := by
  obtain ⟨cs, rfl⟩ := hv
  obtain ⟨g, h1, h2⟩ := Opens.arg_agg (g := fun g => (sysD g).cells) opens_system h fun g => rfl
  exact ⟨g, h1, h2, trivial⟩
theorem open_ref {v : Value} {d : DataW H} {p : List MemPlace} (h : DataW.Trod enc prog W 0 (fun _ => true) true 30 v d p) (hv : ∃ cs, v = .agg cs) :
    ∃ x : Int × Int, Rep W noCtx (pairD x) v ∧ 1 ≤ uptoBulk d ∧ True := by
  obtain ⟨cs, rfl⟩ := hv
  obtain ⟨g, h1, h2⟩ := Opens.arg_agg (g := fun g => (pairD g).cells) opens_ref h fun g => rfl
  exact ⟨g, h1, h2, trivial⟩
end

end Abs
end Go.Proofs.Ytbdcklchcdkhbaa
