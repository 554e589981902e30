/- AttrConstant. -/
import Derived.Test.YtoeehfnkcfeoaaaN10
import Derived.Test.YtoeehfnkcfeoaaaN11
namespace Go.Proofs.Ytoeehfnkcfeoaaa
namespace Abs
set_option linter.unusedVariables false
set_option linter.unusedSimpArgs false
set_option maxRecDepth 20000

theorem at_System (g : Gr) (hg : okGr g) (l : List Int) (hlen : l.length < 2 ^ 60) (n : Nat) (h : Heap) :
    ACalls prog F_parlkeep4_System [.agg [.int .i64 g.terms, .int .i64 g.nons, .int .i64 g.start, .lst (g.rules.map ruleD)], iD l] n h fun d h' x => h' = h ∧ x = [] ∧ ∃ S : Sys, okS S ∧ d = .agg [.lst (S.attrs.map atD), .lst (S.eqs.map eqD)] := by
  refine K_parlkeep4_System.calls fun hl => ?_
  unfold C_parlkeep4_System
  have hs := at_system g hg l hlen
  unfold gramD at hs
  simp -implicitDefEqProofs only [↓symPre, symPost, y_condP, y_condG, run, lver, minD, intsD, eqAll, tupD, splice, Nat.zero_add, Nat.add_zero, Nat.zero_mul, Nat.mul_one, Nat.one_mul, Nat.reduceAdd, Nat.reduceSub, Nat.reduceMul, Nat.reduceLT, Nat.reduceLeDiff, Nat.reduceEqDiff, true_and, and_true, true_implies, if_true, if_false, ite_true, reduceIte, ne_eq, not_false_eq_true, reduceCtorEq, forall_const, bne_self_eq_false, Bool.true_eq_false, Bool.false_eq_true, false_implies, and_self, implies_true, Int.toNat_zero, beq_self_eq_true, decide_true, decide_false, Bool.not_true, Bool.not_false, ↓y_lookv, y_key1, y_mlook, y_mlookn, y_mres1, y_mres0, ↓y_call]
  refine (hs _ _).mono fun d h' x ⟨hh, hx, S, hS, hd⟩ => .inl ⟨[], by simp [St.inr], hx, by rw [hh]; rfl, ?_⟩
  subst hd
  have hla := low_ats n S.attrs
  have hle := low_eqs n S.eqs
  unfold sysD
  simp -implicitDefEqProofs only [↓symPre, symPost, y_condP, y_condG, run, lver, minD, intsD, eqAll, tupD, splice, Nat.zero_add, Nat.add_zero, Nat.zero_mul, Nat.mul_one, Nat.one_mul, Nat.reduceAdd, Nat.reduceSub, Nat.reduceMul, Nat.reduceLT, Nat.reduceLeDiff, Nat.reduceEqDiff, true_and, and_true, true_implies, if_true, if_false, ite_true, reduceIte, ne_eq, not_false_eq_true, reduceCtorEq, forall_const, bne_self_eq_false, Bool.true_eq_false, Bool.false_eq_true, false_implies, and_self, implies_true, Int.toNat_zero, beq_self_eq_true, decide_true, decide_false, Bool.not_true, Bool.not_false, ↓y_lookv, y_key1, y_mlook, y_mlookn, y_mres1, y_mres0, ↓y_call]
  exact fin_low hl (low_sysD n S) ⟨rfl, rfl, S, hS, rfl⟩

theorem gets1 (n : Nat) (h : Heap) : Gets n h F_parlkeep4_AttrConstant_1 [] fun _ _ => 0 := by
  intro a r n' h' _ _
  refine K_parlkeep4_AttrConstant_1.calls fun hl => ?_
  unfold C_parlkeep4_AttrConstant_1
  simp -implicitDefEqProofs only [↓symPre, symPost, y_condP, y_condG, run, lver, minD, intsD, eqAll, tupD, splice, Nat.zero_add, Nat.add_zero, Nat.zero_mul, Nat.mul_one, Nat.one_mul, Nat.reduceAdd, Nat.reduceSub, Nat.reduceMul, Nat.reduceLT, Nat.reduceLeDiff, Nat.reduceEqDiff, true_and, and_true, true_implies, if_true, if_false, ite_true, reduceIte, ne_eq, not_false_eq_true, reduceCtorEq, forall_const, bne_self_eq_false, Bool.true_eq_false, Bool.false_eq_true, false_implies, and_self, implies_true, Int.toNat_zero, beq_self_eq_true, decide_true, decide_false, Bool.not_true, Bool.not_false, ↓y_lookv, y_key1, y_mlook, y_mlookn, y_mres1, y_mres0, ↓y_call]
  exact fin_low hl (.int ..) ⟨rfl, rfl, rfl⟩

def getF (seed a r : Int) : Int := belowI (IntKind.i64.wrap (IntKind.i64.wrap (seed + IntKind.i64.wrap (31 * a)) + IntKind.i64.wrap (7 * r))) 100
theorem gets2 {seed : Int} {n : Nat} {h : Heap} {b ver : Nat} (hb : b < n) (hh : h b = ⟨ver, .cells [.int .i64 seed]⟩) : Gets n h F_parlkeep4_AttrConstant_2 [.ptr b ver 0] (getF seed) := by
  intro a r n' h' hn hk
  have hh' := hk b ver _ hb hh
  have hb' : b < n' := by omega
  refine K_parlkeep4_AttrConstant_2.calls fun hl => ?_
  unfold C_parlkeep4_AttrConstant_2
  simp -implicitDefEqProofs only [↓symPre, symPost, y_condP, y_condG, run, lver, minD, intsD, eqAll, tupD, splice, Nat.zero_add, Nat.add_zero, Nat.zero_mul, Nat.mul_one, Nat.one_mul, Nat.reduceAdd, Nat.reduceSub, Nat.reduceMul, Nat.reduceLT, Nat.reduceLeDiff, Nat.reduceEqDiff, true_and, and_true, true_implies, if_true, if_false, ite_true, reduceIte, ne_eq, not_false_eq_true, reduceCtorEq, forall_const, bne_self_eq_false, Bool.true_eq_false, Bool.false_eq_true, false_implies, and_self, implies_true, Int.toNat_zero, beq_self_eq_true, decide_true, decide_false, Bool.not_true, Bool.not_false, ↓y_lookv, y_key1, y_mlook, y_mlookn, y_mres1, y_mres0, ↓y_call, ↓y_at_old hb', hh', hb']
  refine (pure_Below _ 100 (by omega) (by omega)).call rfl ?_
  simp -implicitDefEqProofs only [↓symPre, symPost, y_condP, y_condG, run, lver, minD, intsD, eqAll, tupD, splice, Nat.zero_add, Nat.add_zero, Nat.zero_mul, Nat.mul_one, Nat.one_mul, Nat.reduceAdd, Nat.reduceSub, Nat.reduceMul, Nat.reduceLT, Nat.reduceLeDiff, Nat.reduceEqDiff, true_and, and_true, true_implies, if_true, if_false, ite_true, reduceIte, ne_eq, not_false_eq_true, reduceCtorEq, forall_const, bne_self_eq_false, Bool.true_eq_false, Bool.false_eq_true, false_implies, and_self, implies_true, Int.toNat_zero, beq_self_eq_true, decide_true, decide_false, Bool.not_true, Bool.not_false, ↓y_lookv, y_key1, y_mlook, y_mlookn, y_mres1, y_mres0, ↓y_call]
  exact fin_low hl (.int ..) ⟨rfl, rfl, rfl⟩

theorem pure_Calc0 (x : Ex) (hx : okX x) (hsz : sz x < 2 ^ 40) : Pure prog F_attr_Calc [exD x, .fn F_parlkeep4_AttrConstant_1 []] (.int .i64 (calcE (fun _ _ => 0) x)) := fun n h =>
  (at_Calc _ _ _ x hx hsz n h (by simp) (gets1 n h)).mono fun d h' y ⟨h1, h2, h3⟩ => ⟨h2, h1, h3⟩

/-! ### the law -/
theorem calcE_con (f : Int → Int → Int) : ∀ x : Ex, calcE f (conE f x) = calcE f x
  | .mk k n a r xs => by
    rw [conE_mk]
    by_cases hk : k = 1
    · rw [if_pos hk, calcE_mk, calcE_mk, hk]; rfl
    · rw [if_neg hk, calcE_mk, calcE_mk, List.map_map]
      have : xs.map (calcE f ∘ conE f) = xs.map (calcE f) := List.map_congr_left fun y _ => calcE_con f y
      rw [this]
theorem okX_con (f : Int → Int → Int) : ∀ x : Ex, okX x → okX (conE f x)
  | .mk k n a r xs, h => by
    obtain ⟨h1, h2⟩ := okX_mk.1 h
    rw [conE_mk]
    split
    · exact okX_mk.2 ⟨.inl rfl, by simp⟩
    · refine okX_mk.2 ⟨by simpa using h1, fun y hy => ?_⟩
      obtain ⟨z, hz, rfl⟩ := List.mem_map.1 hy
      exact okX_con f z (h2 z hz)

theorem wk_fn1 {X : Wx} {f : FuncId} {c c' : D} (h : Wk X c c') : Wk X (.fn f [c]) (.fn f [c']) := .fn f _ _ rfl fun i x x' hx hx' => by
  cases i with
  | zero => simp at hx hx'; subst hx; subst hx'; exact h
  | succ i => simp at hx

set_option maxHeartbeats 8000000 in
theorem pure_AttrConstant (l m : List Int) (seed : Int) (hl60 : l.length < 2 ^ 60) (hm60 : m.length < 2 ^ 60) : Pure prog F_parlkeep4_AttrConstant [iD l, iD m, .int .i64 seed] (.bool true) := by
  intro n h
  refine K_parlkeep4_AttrConstant.calls fun hl => ?_
  unfold C_parlkeep4_AttrConstant
  have p0 := pure_Calc0 (.mk 0 7 0 0 []) (okX_mk.2 ⟨.inl rfl, by simp⟩) (by simp [sz_mk])
  rw [exD_mk, List.map_nil] at p0
  obtain ⟨v7, h7⟩ : ∃ v7, calcE (fun _ _ => 0) (.mk 0 7 0 0 []) = v7 := ⟨_, rfl⟩
  have b7 : (v7 != 7) = false := by rw [← h7, calcE_mk]; rfl
  rw [h7] at p0
  have hlm := low_ints n m
  have hll := low_ints n l
  simp -implicitDefEqProofs only [↓symPre, symPost, y_condP, y_condG, run, lver, minD, intsD, eqAll, tupD, splice, Nat.zero_add, Nat.add_zero, Nat.zero_mul, Nat.mul_one, Nat.one_mul, Nat.reduceAdd, Nat.reduceSub, Nat.reduceMul, Nat.reduceLT, Nat.reduceLeDiff, Nat.reduceEqDiff, true_and, and_true, true_implies, if_true, if_false, ite_true, reduceIte, ne_eq, not_false_eq_true, reduceCtorEq, forall_const, bne_self_eq_false, Bool.true_eq_false, Bool.false_eq_true, false_implies, and_self, implies_true, Int.toNat_zero, beq_self_eq_true, decide_true, decide_false, Bool.not_true, Bool.not_false, ↓y_lookv, y_key1, y_mlook, y_mlookn, y_mres1, y_mres0, ↓y_call]
  refine p0.callF (.int ..) rfl (y_wkl (wk_agg5 ?_) (y_wkl (.low _ (.fn _ _ (by simp))) trivial)) ?_
  · exact y_wkl (wk_int rfl) (y_wkl (wk_int rfl) (y_wkl (wk_int rfl) (y_wkl (wk_int rfl) (y_wkl .nilsLst trivial))))
  simp -implicitDefEqProofs only [↓symPre, symPost, y_condP, y_condG, run, lver, minD, intsD, eqAll, tupD, splice, Nat.zero_add, Nat.add_zero, Nat.zero_mul, Nat.mul_one, Nat.one_mul, Nat.reduceAdd, Nat.reduceSub, Nat.reduceMul, Nat.reduceLT, Nat.reduceLeDiff, Nat.reduceEqDiff, true_and, and_true, true_implies, if_true, if_false, ite_true, reduceIte, ne_eq, not_false_eq_true, reduceCtorEq, forall_const, bne_self_eq_false, Bool.true_eq_false, Bool.false_eq_true, false_implies, and_self, implies_true, Int.toNat_zero, beq_self_eq_true, decide_true, decide_false, Bool.not_true, Bool.not_false, ↓y_lookv, y_key1, y_mlook, y_mlookn, y_mres1, y_mres0, ↓y_call, b7]
  refine (at_Grammar l hl60 _ _).mono fun d h' x ⟨hh, hx, g, hg, hd⟩ => .inl ⟨[], by simp [St.inr], hx, by rw [hh]; rfl, ?_⟩
  subst hd
  have hlr := low_rules n g.rules
  unfold gramD
  simp -implicitDefEqProofs only [↓symPre, symPost, y_condP, y_condG, run, lver, minD, intsD, eqAll, tupD, splice, Nat.zero_add, Nat.add_zero, Nat.zero_mul, Nat.mul_one, Nat.one_mul, Nat.reduceAdd, Nat.reduceSub, Nat.reduceMul, Nat.reduceLT, Nat.reduceLeDiff, Nat.reduceEqDiff, true_and, and_true, true_implies, if_true, if_false, ite_true, reduceIte, ne_eq, not_false_eq_true, reduceCtorEq, forall_const, bne_self_eq_false, Bool.true_eq_false, Bool.false_eq_true, false_implies, and_self, implies_true, Int.toNat_zero, beq_self_eq_true, decide_true, decide_false, Bool.not_true, Bool.not_false, ↓y_lookv, y_key1, y_mlook, y_mlookn, y_mres1, y_mres0, ↓y_call]
  refine (at_System g hg m hm60 _ _).mono fun d h' x ⟨hh, hx, S, hS, hd⟩ => .inl ⟨[], by simp [St.inr], hx, by rw [hh]; rfl, ?_⟩
  subst hd
  obtain ⟨Sa, Se⟩ := S
  have hSo := hS.is
  have hSl := hS.eqs
  simp only at hSo hSl
  have hle := low_eqs n Se
  simp -implicitDefEqProofs only [↓symPre, symPost, y_condP, y_condG, run, lver, minD, intsD, eqAll, tupD, splice, Nat.zero_add, Nat.add_zero, Nat.zero_mul, Nat.mul_one, Nat.one_mul, Nat.reduceAdd, Nat.reduceSub, Nat.reduceMul, Nat.reduceLT, Nat.reduceLeDiff, Nat.reduceEqDiff, true_and, and_true, true_implies, if_true, if_false, ite_true, reduceIte, ne_eq, not_false_eq_true, reduceCtorEq, forall_const, bne_self_eq_false, Bool.true_eq_false, Bool.false_eq_true, false_implies, and_self, implies_true, Int.toNat_zero, beq_self_eq_true, decide_true, decide_false, Bool.not_true, Bool.not_false, ↓y_lookv, y_key1, y_mlook, y_mlookn, y_mres1, y_mres0, ↓y_call, List.length_map]
  refine aloop (fun i : Nat => St.mk n (List.replicate 8 .top ++ [.fn F_parlkeep4_AttrConstant_2 [.ptr (n + 5) 1 0]] ++ List.replicate 11 .top ++ [.lst (Se.map eqD), .int .i64 Se.length, .int .i64 i] ++ List.replicate 24 .top) h
      (List.replicate 5 blk0 ++ [⟨1, .cells [.int .i64 seed]⟩] ++ List.replicate 41 blk0)) (fun i => i ≤ Se.length) (fun i => Se.length - i) 0 (Nat.zero_le _) ?_ ?_
  · refine le_to (List.replicate 5 .hole ++ [.old 5] ++ List.replicate 41 .hole) hl rfl ?_ ?_ <;> ((try simp only [y_blk_end, y_blk_hole, y_blk_nil, y_blk_old, y_wkl_end, y_wkl_top, List.replicate, List.cons_append, List.nil_append, and_true, true_and]) <;> (repeat' (first | apply And.intro | apply y_wkl | refine Exists.intro _ (And.intro rfl ?_))) <;> (try first | exact trivial | exact Wk.top _ | exact wk_int rfl | exact wk_bool rfl | exact wk_ptr rfl rfl rfl rfl | exact wk_ref rfl rfl rfl rfl rfl | exact wk_nil rfl rfl rfl | exact wk_ref rfl rfl rfl rfl (by simp) | exact wk_ref rfl rfl rfl rfl (by simp; omega) | exact wk_old (by assumption) (by simp) | exact wk_eq rfl (by first | exact Bd.int _ _ | exact Bd.bool _ | exact Bd.abool | exact Bd.nils | exact Bd.emp | exact Bd.nilp | exact Bd.nilfn | assumption | exact low_trees _ _ | exact low_treeD _ _ | exact low_ints _ _) | exact Nat.le_refl _ | exact wk_int (by simp) | exact wk_int (by omega) | exact Nat.succ_le_succ (Nat.zero_le _) | exact Nat.le_add_left _ _ | omega))
    all_goals first | exact wk_fn1 (wk_ptr rfl rfl rfl rfl) | skip
  · intro i hi
    by_cases hlt : i < Se.length
    · have f1 : (i : Int) < (Se.length : Int) := by omega
      have f0 : (0 : Int) ≤ (i : Int) := by omega
      have w1 : IntKind.i64.wrap ((i : Int) + 1) = ((i + 1 : Nat) : Int) := by rw [IntWalk.i64_in _ (by omega)]; omega
      have e0 : nth (Se.map eqD) i = eqD Se[i] := by simp [nth, List.getD, hlt]
      obtain ⟨hok, hsz⟩ := hSo Se[i] (List.getElem_mem hlt)
      generalize Se[i] = q at *
      obtain ⟨u, v, w, x⟩ := q
      simp only at hok hsz
      have c1 := fun n h hcs hg => at_Calc (getF seed) F_parlkeep4_AttrConstant_2 [.ptr (n + 5) 1 0] x hok (by omega) n h hcs hg
      have hcz := conE_sz (getF seed) x
      have pR := pure_Refs (conE (getF seed) x) (conE_noV _ x) (by omega)
      have hC := fun b => at_Calc (getF seed) F_parlkeep4_AttrConstant_2 [.ptr b 1 0] x hok (by omega)
      have hC2 := fun b => at_Calc (getF seed) F_parlkeep4_AttrConstant_2 [.ptr b 1 0] (conE (getF seed) x) (okX_con _ x hok) (by omega)
      have hK := fun b => at_constant (getF seed) F_parlkeep4_AttrConstant_2 [.ptr b 1 0] x (by omega)
      simp only [calcE_con] at hC2
      clear c1
      generalize calcE (getF seed) x = cv at *
      generalize hcx : conE (getF seed) x = cx at *
      obtain ⟨k, nn, a, r, xs⟩ := x
      obtain ⟨ck, cn, ca, cr, cxs⟩ := cx
      have hlx := low_exs n xs
      have hlcx := low_exs n cxs
      rw [eqD_mk] at e0
      simp only [exD_mk] at hC hC2 hK pR
      have gets : ∀ (s : Heap), s (n + 5) = ⟨1, .cells [.int .i64 seed]⟩ → Gets (n + 47) s F_parlkeep4_AttrConstant_2 [.ptr (n + 5) 1 0] (getF seed) := fun s hs => gets2 (by omega) hs
      have lows : ∀ c ∈ [D.ptr (n + 5) 1 0], Low (n + 47) c := fun c hc => by
        simp only [List.mem_singleton] at hc
        subst hc
        exact .ptr _ _ _ (.inl (by omega))
      simp -implicitDefEqProofs only [↓symPre, symPost, y_condP, y_condG, run, lver, minD, intsD, eqAll, tupD, splice, Nat.zero_add, Nat.add_zero, Nat.zero_mul, Nat.mul_one, Nat.one_mul, Nat.reduceAdd, Nat.reduceSub, Nat.reduceMul, Nat.reduceLT, Nat.reduceLeDiff, Nat.reduceEqDiff, true_and, and_true, true_implies, if_true, if_false, ite_true, reduceIte, ne_eq, not_false_eq_true, reduceCtorEq, forall_const, bne_self_eq_false, Bool.true_eq_false, Bool.false_eq_true, false_implies, and_self, implies_true, Int.toNat_zero, beq_self_eq_true, decide_true, decide_false, Bool.not_true, Bool.not_false, ↓y_lookv, y_key1, y_mlook, y_mlookn, y_mres1, y_mres0, ↓y_call, f1, f0, decide_true, List.length_map, Int.toNat_natCast, e0]
      refine adrawq hmix [] ?_
      simp (maxSteps := 400000) -implicitDefEqProofs only [↓symPre, symPost, y_condP, y_condG, run, lver, minD, intsD, eqAll, tupD, splice, Nat.zero_add, Nat.add_zero, Nat.zero_mul, Nat.mul_one, Nat.one_mul, Nat.reduceAdd, Nat.reduceSub, Nat.reduceMul, Nat.reduceLT, Nat.reduceLeDiff, Nat.reduceEqDiff, true_and, and_true, true_implies, if_true, if_false, ite_true, reduceIte, ne_eq, not_false_eq_true, reduceCtorEq, forall_const, bne_self_eq_false, Bool.true_eq_false, Bool.false_eq_true, false_implies, and_self, implies_true, Int.toNat_zero, beq_self_eq_true, decide_true, decide_false, Bool.not_true, Bool.not_false, ↓y_lookv, y_key1, y_mlook, y_mlookn, y_mres1, y_mres0, ↓y_call, ↓y_adq0, ↓y_adq, ↓y_stepQ_call, ↓y_adq_onT, ↓y_adq_onF, ↓y_adq_onS, drawPost, isCall, isNew, isEff, Option.toList, or_false, false_or, cond_true, cond_false, not_true_eq_false, or_true, true_or, Nat.add_left_cancel_iff, Bool.false_eq_true, ↓y_q0, ↓y_q1, ↓y_q1e, y_qn, isMap, List.flatMap_cons, List.flatMap_nil, List.append_nil, List.getD_cons_succ, List.getD_cons_zero]
      refine ⟨_, _, ACalls.noneD (r := .int .i64 cv) rfl ?_, ?_, ?_⟩
      · intro s hs
        exact hC (n + 5) _ _ lows (gets _ (hs.hp (by show mrg n h _ (n + 5) = _; rw [mrg_loc]; rfl)))
      · exact (by simp [y_cov0, y_cov1, isNew, isEff, Option.toList])
      simp (maxSteps := 400000) -implicitDefEqProofs only [↓symPre, symPost, y_condP, y_condG, run, lver, minD, intsD, eqAll, tupD, splice, Nat.zero_add, Nat.add_zero, Nat.zero_mul, Nat.mul_one, Nat.one_mul, Nat.reduceAdd, Nat.reduceSub, Nat.reduceMul, Nat.reduceLT, Nat.reduceLeDiff, Nat.reduceEqDiff, true_and, and_true, true_implies, if_true, if_false, ite_true, reduceIte, ne_eq, not_false_eq_true, reduceCtorEq, forall_const, bne_self_eq_false, Bool.true_eq_false, Bool.false_eq_true, false_implies, and_self, implies_true, Int.toNat_zero, beq_self_eq_true, decide_true, decide_false, Bool.not_true, Bool.not_false, ↓y_lookv, y_key1, y_mlook, y_mlookn, y_mres1, y_mres0, ↓y_call, ↓y_adq0, ↓y_adq, ↓y_stepQ_call, ↓y_adq_onT, ↓y_adq_onF, ↓y_adq_onS, drawPost, isCall, isNew, isEff, Option.toList, or_false, false_or, cond_true, cond_false, not_true_eq_false, or_true, true_or, Nat.add_left_cancel_iff, Bool.false_eq_true, ↓y_q0, ↓y_q1, ↓y_q1e, y_qn, isMap, List.flatMap_cons, List.flatMap_nil, List.append_nil, List.getD_cons_succ, List.getD_cons_zero]
      refine ⟨_, _, ACalls.noneD (r := .agg [.int .i64 ck, .int .i64 cn, .int .i64 ca, .int .i64 cr, .lst (cxs.map exD)]) rfl ?_, ?_, ?_⟩
      · intro s hs
        exact hK (n + 5) _ _ lows (gets _ (hs.hp (by show mrg n h _ (n + 5) = _; rw [mrg_loc]; rfl)))
      · exact (by simp [y_cov0, y_cov1, isNew, isEff, Option.toList])
      simp (maxSteps := 400000) -implicitDefEqProofs only [↓symPre, symPost, y_condP, y_condG, run, lver, minD, intsD, eqAll, tupD, splice, Nat.zero_add, Nat.add_zero, Nat.zero_mul, Nat.mul_one, Nat.one_mul, Nat.reduceAdd, Nat.reduceSub, Nat.reduceMul, Nat.reduceLT, Nat.reduceLeDiff, Nat.reduceEqDiff, true_and, and_true, true_implies, if_true, if_false, ite_true, reduceIte, ne_eq, not_false_eq_true, reduceCtorEq, forall_const, bne_self_eq_false, Bool.true_eq_false, Bool.false_eq_true, false_implies, and_self, implies_true, Int.toNat_zero, beq_self_eq_true, decide_true, decide_false, Bool.not_true, Bool.not_false, ↓y_lookv, y_key1, y_mlook, y_mlookn, y_mres1, y_mres0, ↓y_call, ↓y_adq0, ↓y_adq, ↓y_stepQ_call, ↓y_adq_onT, ↓y_adq_onF, ↓y_adq_onS, drawPost, isCall, isNew, isEff, Option.toList, or_false, false_or, cond_true, cond_false, not_true_eq_false, or_true, true_or, Nat.add_left_cancel_iff, Bool.false_eq_true, ↓y_q0, ↓y_q1, ↓y_q1e, y_qn, isMap, List.flatMap_cons, List.flatMap_nil, List.append_nil, List.getD_cons_succ, List.getD_cons_zero]
      refine ⟨_, _, ACalls.noneD (r := .int .i64 cv) rfl ?_, ?_, ?_⟩
      · intro s hs
        exact hC2 (n + 5) _ _ lows (gets _ (hs.hp (by show mrg n h _ (n + 5) = _; rw [mrg_loc]; rfl)))
      · exact (by simp [y_cov0, y_cov1, isNew, isEff, Option.toList])
      simp (maxSteps := 400000) -implicitDefEqProofs only [↓symPre, symPost, y_condP, y_condG, run, lver, minD, intsD, eqAll, tupD, splice, Nat.zero_add, Nat.add_zero, Nat.zero_mul, Nat.mul_one, Nat.one_mul, Nat.reduceAdd, Nat.reduceSub, Nat.reduceMul, Nat.reduceLT, Nat.reduceLeDiff, Nat.reduceEqDiff, true_and, and_true, true_implies, if_true, if_false, ite_true, reduceIte, ne_eq, not_false_eq_true, reduceCtorEq, forall_const, bne_self_eq_false, Bool.true_eq_false, Bool.false_eq_true, false_implies, and_self, implies_true, Int.toNat_zero, beq_self_eq_true, decide_true, decide_false, Bool.not_true, Bool.not_false, ↓y_lookv, y_key1, y_mlook, y_mlookn, y_mres1, y_mres0, ↓y_call, ↓y_adq0, ↓y_adq, ↓y_stepQ_call, ↓y_adq_onT, ↓y_adq_onF, ↓y_adq_onS, drawPost, isCall, isNew, isEff, Option.toList, or_false, false_or, cond_true, cond_false, not_true_eq_false, or_true, true_or, Nat.add_left_cancel_iff, Bool.false_eq_true, ↓y_q0, ↓y_q1, ↓y_q1e, y_qn, isMap, List.flatMap_cons, List.flatMap_nil, List.append_nil, List.getD_cons_succ, List.getD_cons_zero]
      refine ⟨_, _, ACalls.noneD (r := .agg [.int .i64 ck, .int .i64 cn, .int .i64 ca, .int .i64 cr, .lst (cxs.map exD)]) rfl ?_, ?_, ?_⟩
      · intro s hs
        exact hK (n + 5) _ _ lows (gets _ (hs.hp (by show mrg n h _ (n + 5) = _; rw [mrg_loc]; rfl)))
      · exact (by simp [y_cov0, y_cov1, isNew, isEff, Option.toList])
      have hz0 : ((0 : Nat) : Int) = 0 := rfl
      have hz1 : ¬ (0 : Int) > 0 := by omega
      simp (maxSteps := 400000) -implicitDefEqProofs only [↓symPre, symPost, y_condP, y_condG, run, lver, minD, intsD, eqAll, tupD, splice, Nat.zero_add, Nat.add_zero, Nat.zero_mul, Nat.mul_one, Nat.one_mul, Nat.reduceAdd, Nat.reduceSub, Nat.reduceMul, Nat.reduceLT, Nat.reduceLeDiff, Nat.reduceEqDiff, true_and, and_true, true_implies, if_true, if_false, ite_true, reduceIte, ne_eq, not_false_eq_true, reduceCtorEq, forall_const, bne_self_eq_false, Bool.true_eq_false, Bool.false_eq_true, false_implies, and_self, implies_true, Int.toNat_zero, beq_self_eq_true, decide_true, decide_false, Bool.not_true, Bool.not_false, ↓y_lookv, y_key1, y_mlook, y_mlookn, y_mres1, y_mres0, ↓y_call, ↓y_adq0, ↓y_adq, ↓y_stepQ_call, ↓y_adq_onT, ↓y_adq_onF, ↓y_adq_onS, drawPost, isCall, isNew, isEff, Option.toList, or_false, false_or, cond_true, cond_false, not_true_eq_false, or_true, true_or, Nat.add_left_cancel_iff, Bool.false_eq_true, ↓y_q0, ↓y_q1, ↓y_q1e, y_qn, isMap, List.flatMap_cons, List.flatMap_nil, List.append_nil, List.getD_cons_succ, List.getD_cons_zero]
      refine ⟨_, _, pR.draw rfl, (by simp [y_cov0, y_cov1, isNew, isEff, Option.toList]), ?_⟩
      simp (maxSteps := 400000) -implicitDefEqProofs only [↓symPre, symPost, y_condP, y_condG, run, lver, minD, intsD, eqAll, tupD, splice, Nat.zero_add, Nat.add_zero, Nat.zero_mul, Nat.mul_one, Nat.one_mul, Nat.reduceAdd, Nat.reduceSub, Nat.reduceMul, Nat.reduceLT, Nat.reduceLeDiff, Nat.reduceEqDiff, true_and, and_true, true_implies, if_true, if_false, ite_true, reduceIte, ne_eq, not_false_eq_true, reduceCtorEq, forall_const, bne_self_eq_false, Bool.true_eq_false, Bool.false_eq_true, false_implies, and_self, implies_true, Int.toNat_zero, beq_self_eq_true, decide_true, decide_false, Bool.not_true, Bool.not_false, ↓y_lookv, y_key1, y_mlook, y_mlookn, y_mres1, y_mres0, ↓y_call, ↓y_adq0, ↓y_adq, ↓y_stepQ_call, ↓y_adq_onT, ↓y_adq_onF, ↓y_adq_onS, drawPost, isCall, isNew, isEff, Option.toList, or_false, false_or, cond_true, cond_false, not_true_eq_false, or_true, true_or, Nat.add_left_cancel_iff, Bool.false_eq_true, ↓y_q0, ↓y_q1, ↓y_q1e, y_qn, isMap, List.flatMap_cons, List.flatMap_nil, List.append_nil, List.getD_cons_succ, List.getD_cons_zero, List.length_nil, hz0, hz1, decide_false, w1]
      refine ⟨i + 1, by omega, by omega, ?_⟩
      refine le_to (List.replicate 5 .hole ++ [.old 5] ++ List.replicate 41 .hole) hl rfl ?_ ?_ <;> ((try simp only [y_blk_end, y_blk_hole, y_blk_nil, y_blk_old, y_wkl_end, y_wkl_top, List.replicate, List.cons_append, List.nil_append, and_true, true_and]) <;> (repeat' (first | apply And.intro | apply y_wkl | refine Exists.intro _ (And.intro rfl ?_))) <;> (try first | exact trivial | exact Wk.top _ | exact wk_int rfl | exact wk_bool rfl | exact wk_ptr rfl rfl rfl rfl | exact wk_ref rfl rfl rfl rfl rfl | exact wk_nil rfl rfl rfl | exact wk_ref rfl rfl rfl rfl (by simp) | exact wk_ref rfl rfl rfl rfl (by simp; omega) | exact wk_old (by assumption) (by simp) | exact wk_eq rfl (by first | exact Bd.int _ _ | exact Bd.bool _ | exact Bd.abool | exact Bd.nils | exact Bd.emp | exact Bd.nilp | exact Bd.nilfn | assumption | exact low_trees _ _ | exact low_treeD _ _ | exact low_ints _ _) | exact Nat.le_refl _ | exact wk_int (by simp) | exact wk_int (by omega) | exact Nat.succ_le_succ (Nat.zero_le _) | exact Nat.le_add_left _ _ | omega))
      all_goals first | exact wk_fn1 (wk_ptr rfl rfl rfl rfl) | skip
    · have f1 : ¬ (i : Int) < (Se.length : Int) := by omega
      simp -implicitDefEqProofs only [↓symPre, symPost, y_condP, y_condG, run, lver, minD, intsD, eqAll, tupD, splice, Nat.zero_add, Nat.add_zero, Nat.zero_mul, Nat.mul_one, Nat.one_mul, Nat.reduceAdd, Nat.reduceSub, Nat.reduceMul, Nat.reduceLT, Nat.reduceLeDiff, Nat.reduceEqDiff, true_and, and_true, true_implies, if_true, if_false, ite_true, reduceIte, ne_eq, not_false_eq_true, reduceCtorEq, forall_const, bne_self_eq_false, Bool.true_eq_false, Bool.false_eq_true, false_implies, and_self, implies_true, Int.toNat_zero, beq_self_eq_true, decide_true, decide_false, Bool.not_true, Bool.not_false, ↓y_lookv, y_key1, y_mlook, y_mlookn, y_mres1, y_mres0, ↓y_call, f1, decide_false]
      exact fin_bool hl rfl

end Abs
end Go.Proofs.Ytoeehfnkcfeoaaa
