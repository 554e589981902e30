/- A region behind a mark; what a function hands back; a frame's own memory; slices.Backward's contract. -/
import Derived.Test.YtfojedaccfenfabU3
import Derived.Test.YtfojedaccfenfabD3
namespace Go.Proofs.Ytfojedaccfenfab
namespace Abs
set_option linter.unusedVariables false
set_option linter.unusedSimpArgs false

variable {P : Program} {s : St} {a : Act} {w : World} {M : Ctx}

theorem oper_defers {o : Oper} {ds : List Deferred} {next0 next : Act → World → Prop} {Q : Exit → Act → World → Prop} (m : Nat) (h : o.wp P a w next0 fun e a' w' => Q e { a' with defers := ds } w')
    (hn : ∀ a' w', next0 a' w' → a'.defers = [] ∧ next { a' with defers := ds } w') : o.wpIn Fence.wide m P { a with defers := ds } w next Q := by
  refine ⟨fun _ _ => trivial, ?_⟩
  have e : (o.semAt Fence.wide.round ({ a with defers := ds } : Act).eval) = execOp a.eval o := rfl
  rw [e]
  unfold Oper.wp at h
  generalize (execOp a.eval o).run P w = res at h ⊢
  have hp : ∀ v, ({ a with defers := ds } : Act).put o.dst v = { a.put o.dst v with defers := ds } := fun v => by
    unfold Act.put; cases o.dst <;> rfl
  cases res with
  | ok x w' =>
    cases x with
    | enter f args =>
      simp only [Oper.upon] at h
      refine ⟨fun h => (by cases h), callsIn_wide.2 (h.mono fun e w'' he => ?_)⟩
      cases e with
      | returned v =>
        show next _ _
        rw [hp]; exact (hn _ _ he).2
      | panicked chain => exact he
      | outgrown => obtain ⟨a', w3, h3⟩ := he; exact ⟨_, _, h3⟩
    | row row args =>
      simp only [Oper.upon] at h
      refine ⟨fun h => (by cases h), fun c cs _ => ?_⟩
      obtain ⟨v, w'', hr, hs⟩ := h c cs
      refine ⟨v, w'', ?_, stepsIn_wide.2 hs⟩
      show next _ _
      rw [hp]; exact (hn _ _ hr).2
    | round l f t ts b => exact (show False from h).elim
    | value v => show next _ _; rw [hp]; exact (hn _ _ h).2
    | skip => show next _ _; rw [hp]; exact (hn _ _ h).2
    | defer d =>
      have := (hn _ _ h).1
      unfold Act.put at this
      cases hd : o.dst <;> rw [hd] at this <;> cases this
    | _ => exact h
  | halt x w' => cases x <;> exact h

theorem aops_defers {m : Nat} {ops : Array Oper} {ds : List Deferred} {K : St → Prop} {Q : Exit → Act → World → Prop} : ∀ (l : List Oper) (s : St) (a : Act) (w : World) (M : Ctx) (n0 : Nat) (w0 : World) (M0 : Ctx), s.n = n0 → SimA s a w M → Grows n0 w0 M0 w M →
    (∀ o ∈ l, o.guard = none) → aops P (l.map (aoper P ops)) s K → (∀ s' a' w' M', s'.n = n0 → K s' → SimA s' a' w' M' → Grows n0 w0 M0 w' M' → Q .normal { a' with defers := ds } w') → wpListIn Fence.wide m P ops Q l { a with defers := ds } w
  | [], s, a, w, M, n0, w0, M0, hn, hs, hg, hl, h, hQ => hQ s a w M hn h hs hg
  | o :: l, s, a, w, M, n0, w0, M0, hn, hs, hg, hl, h, hQ => by
    subst hn
    have hgd := hl o (by simp)
    have hag : (aoper P ops o).guard = .always := by simp [aoper, aguard, hgd]
    simp only [List.map_cons, aops, hag] at h
    unfold wpListIn
    rw [if_pos (by simp [Region.wanted, hgd])]
    refine oper_defers m (stepO_sound (ops := ops) (Q := fun e a' w' => Q e { a' with defers := ds } w') hs h) fun a' w' ⟨d, δ, v, M', hK, hδ, ha, hst, hsim, hr⟩ => ?_
    subst ha
    have hs' := simA_put hs hst hr hδ hsim o.dst
    exact ⟨hs'.defers, aops_defers l (s.fin o.dst d δ) _ w' M' s.n w0 M0 rfl hs' (hg.trans (hst.grows _)) (fun o ho => hl o (by simp [ho])) hK hQ⟩

/-- a region behind a mark -/
theorem region_defers {m id : Nat} {ops : Array Oper} {ds : List Deferred} {K : St → Prop} {Q : Exit → Act → World → Prop} (hs : SimA s a w M) (hl : ∀ o ∈ ops.toList, o.guard = none)
    (h : aops P (ops.toList.map (aoper P ops)) s K) (hQ : ∀ s' a' w' M', s'.n = s.n → K s' → SimA s' a' w' M' → Grows s.n w M w' M' → Q .normal { a' with defers := ds } w') : (Code.region id ops false).wpIn Fence.wide m P Q { a with defers := ds } w :=
  wpIn_region_list (aops_defers ops.toList s a w M s.n w M rfl hs (.refl ..) hl h hQ)

/-- what a function hands back -/
theorem fin_leave {fn : Func} {n : Nat} {w0 : World} {M0 : Ctx} {R : D → Heap → List Blk → Prop} (hs : SimA s a w M) (hn : s.n = n) (hg : Grows n w0 M0 w M) (hres : resAll s (fn.results.toList.map (compR P)) (Fin s R)) :
    ∃ v, (results fn a.tmps).run P w = .ok v w ∧ ∃ v2 d h' x M', Ending.returned v = .returned v2 ∧ R d h' x ∧ (∀ k ∈ x, 1 ≤ k.ver) ∧ Sim w M' (mrg n h' x) ∧ Rep w M' d v2 ∧ Grows n w0 M0 w M' := by
  obtain ⟨vs, ds', hrun, htwo, hfin⟩ := resAll_sound (P := P) hs fn.results.toList _ hres
  refine ⟨(if h : vs.toArray.size = 1 then vs.toArray[0] else .tuple vs.toArray), ?_, ?_⟩
  · rw [results_eq, Array.mapM_eq_mapM_toList]
    simp only [Sem.run_bind, Sem.run_map, hrun, Result.andThen_ok, Sem.run_pure]
  · obtain ⟨hlow', g, x, d, hX, hwk, hx, hR⟩ := hfin
    refine ⟨_, d, s.h, x, wkM ⟨s.n, s.lc, g, x⟩ M, rfl, hR, hx, ?_, wk_rep hX hs.sim hwk (two_tup htwo), ?_⟩
    · have := wk_sim hX hlow' hs.sim
      rw [← hn]; exact this
    · rw [← hn]
      have hg1 : Grows s.n w0 M0 w M := by rw [hn]; exact hg
      exact hg1.trans (wk_grows (X := ⟨s.n, s.lc, g, x⟩) hX hs.sim)

/-- a frame's own block, where nothing below has turned, lies in memory that is new -/
theorem new_loc {n : Nat} {h : Heap} {lc : List Blk} {w0 : World} {M0 : Ctx} (hs0 : Sim w0 M0 (mrg n h [])) (hs : Sim w M (mrg n h lc)) (hg : Grows n w0 M0 w M) {t c base : Nat} (hl : (M (n + t)).loc = some (.mem c base)) (ho : (M (n + t)).opq = false) : w0.heap.size ≤ c := by
  refine Nat.le_of_not_lt fun hc => ?_
  obtain ⟨b, base', hb, hbo⟩ := hg.live c hc ⟨n + t, base, hl, ho⟩
  have hbn : b < n := by
    refine Nat.lt_of_not_le fun hle => ?_
    have h1 := hs0.con b
    have e : mrg n h [] b = blk0 := by simp [mrg, Nat.not_lt.2 hle]
    rw [e, hb] at h1; cases h1
  have hv : (M b).ver = (M0 b).ver := by rw [hs.ver, hs0.ver, mrg_lt hbn, mrg_lt hbn]
  have key : (M b).loc = (M0 b).loc := by
    rcases hg.loc b hbn hv with h0 | h0
    · have h1 := hs.con b
      have h2 := hs0.con b
      have h3 := hs0.opq b
      rw [mrg_lt hbn] at h1 h2 h3
      rw [h0] at h1
      rw [hb] at h2
      rw [hbo] at h3
      cases hcon : (h b).con with
      | none => rw [hcon] at h2; cases h2
      | veil => rw [hcon] at h3; cases h3
      | cells cs =>
        rw [hcon] at h1
        rcases h1 with ⟨a, h1, _⟩ | ⟨c', base', C, e, h1, _⟩ <;> cases h1
      | map es =>
        rw [hcon] at h1
        obtain ⟨c', E, cl, h1, _⟩ := h1; cases h1
    · exact h0
  have := hs.inj b (n + t) c base' base (by rw [key, hb]) hl
  omega

theorem pure_Backward (l : List Ed) : Pure prog F_slices_Backward_edit_Edit_edit_Edit [.lst (l.map edD)] (.fn F_slices_Backward_edit_Edit_edit_Edit_1 [.adr [.lst (l.map edD)]]) := by
  intro n h
  refine K_slices_Backward_edit_Edit_edit_Edit.calls fun hl => ?_
  unfold C_slices_Backward_edit_Edit_edit_Edit
  simp -implicitDefEqProofs only [↓symPre, symPost, y_condP, y_condG, run, lver, minD, intsD, eqAll, tupD, splice, Nat.zero_add, Nat.add_zero, Nat.zero_mul, Nat.mul_one, Nat.one_mul, Nat.reduceAdd, Nat.reduceSub, Nat.reduceMul, Nat.reduceLT, Nat.reduceLeDiff, Nat.reduceEqDiff, true_and, and_true, true_implies, if_true, if_false, ite_true, reduceIte, ne_eq, not_false_eq_true, reduceCtorEq, forall_const, bne_self_eq_false, Bool.true_eq_false, Bool.false_eq_true, false_implies, and_self, implies_true, Int.toNat_zero, beq_self_eq_true, decide_true, decide_false, Bool.not_true, Bool.not_false, ↓y_call]
  have hlow : Low n (.lst (l.map edD)) := by
    refine .lst _ fun c hc => ?_
    obtain ⟨e, _, rfl⟩ := List.mem_map.1 hc
    exact low_edD n e
  refine fin_wk (d := .fn F_slices_Backward_edit_Edit_edit_Edit_1 [.adr [.lst (l.map edD)]]) hl (.fn _ _ _ rfl fun i c c' hc hc' => ?_) ⟨rfl, rfl, rfl⟩
  rcases i with _ | i
  · simp at hc hc'
    subst hc; subst hc'
    refine Wk.frzp (X := ⟨n, _, [], []⟩) 1 1 0 [.lst (l.map edD)] [.lst (l.map edD)] rfl (by simp) (by simp) (by simp) fun j e he => ?_
    rcases j with _ | j
    · simp at he; subst he
      exact .low _ hlow
    · simp at he
  · simp at hc

end Abs
end Go.Proofs.Ytfojedaccfenfab
