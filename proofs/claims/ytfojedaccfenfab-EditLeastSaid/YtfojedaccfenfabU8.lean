/- edit.Run's range over slices.Backward: its rounds. -/
import Derived.Test.YtfojedaccfenfabU7
namespace Go.Proofs.Ytfojedaccfenfab
namespace Abs
open Go.RowKit (Below)
set_option linter.unusedVariables false
set_option linter.unusedSimpArgs false
set_option maxRecDepth 20000

/-! ### the function's text, taken apart -/
def cfst : Code → Code
  | .seq a _ => a
  | c => c
def csnd : Code → Code
  | .seq _ b => b
  | c => c
def cin : Code → Code
  | .block _ c => c
  | c => c
def cops : Code → Array Oper
  | .region _ o _ => o
  | _ => #[]
def cass : Code → Code
  | .rangeFunc _ _ a _ => a
  | c => c
def cbod : Code → Code
  | .rangeFunc _ _ _ b => b
  | c => c
def plainOps (ops : Array Oper) : Bool := ops.toList.all fun o => o.guard.isNone && (match o.op with | .defer _ => false | _ => true)
theorem plainOps_spec {ops : Array Oper} (h : plainOps ops = true) : ∀ o ∈ ops.toList, o.guard = none ∧ ∀ c, o.op ≠ .defer c := fun o ho => by
  have := List.all_eq_true.1 h o ho
  simp only [Bool.and_eq_true, Option.isNone_iff_eq_none] at this
  refine ⟨this.1, fun c hc => ?_⟩
  rw [hc] at this
  exact absurd this.2 (by simp)

noncomputable def rBody : Code := Try.f18.body.getD .skip
noncomputable def rTail : Code := csnd (csnd (csnd (csnd (csnd rBody))))
noncomputable def rCs : List Code := [cfst rBody, cfst (csnd rBody), cfst (csnd (csnd rBody)), cfst (csnd (csnd (csnd rBody))), cfst (csnd (csnd (csnd (csnd rBody))))]
noncomputable def r13 : Code := cfst (cfst rTail)
noncomputable def rLoop : Code := cin (csnd (cfst rTail))
noncomputable def r14 : Array Oper := cops (cass rLoop)
noncomputable def r15 : Array Oper := cops (cin (cbod rLoop))
noncomputable def r16 : Array Oper := cops (cfst (csnd rTail))
theorem r_text : Try.f18.body = some (seqs rCs rTail) := by kernel_rfl
theorem r_cs : seqAC (rCs.map (compC prog)) = C_Run_pre := by kernel_rfl
theorem r_tail : rTail = .seq (.seq r13 (.block 2 (.rangeFunc (.tmp 62) #[63, 64] (.region 14 r14 false) (.block 3 (.region 15 r15 false))))) (.seq (.region 16 r16 false) .ret) := by kernel_rfl
theorem r_13 : seqAC ([r13].map (compC prog)) = .seq (.region [⟨some 61, .mov (.tmp 1), .always⟩, ⟨some 62, .call F_slices_Backward_edit_Edit_edit_Edit [.tmp 61], .always⟩]) .skip := by kernel_rfl
theorem r_14 : r14.toList.map (aoper prog r14) = [⟨some 12, .alloc [.int .i64 0, .int .i64 0, .nils], .always⟩, ⟨none, .store 3 (.tmp 12) (.tmp 64), .always⟩] := by kernel_rfl
theorem r_15 : r15.toList.map (aoper prog r15) = [⟨some 65, .load false 1 (.tmp 10), .always⟩, ⟨some 66, .load true 3 (.tmp 12), .always⟩, ⟨some 67, .call F_edit_apply [.tmp 65, .tmp 66], .always⟩, ⟨none, .store 1 (.tmp 10) (.tmp 67), .always⟩] := by kernel_rfl
theorem r_16 : r16.toList.map (aoper prog r16) = [⟨some 68, .load false 1 (.tmp 10), .always⟩, ⟨some 4, .mov (.tmp 68), .always⟩, ⟨some 5, .mov (.val (.int .i64 0)), .always⟩] := by kernel_rfl
theorem p_14 : plainOps r14 = true := by kernel_rfl
theorem p_15 : plainOps r15 = true := by kernel_rfl
theorem p_16 : plainOps r16 = true := by kernel_rfl

theorem Turns.of_below {B : Nat} {W W' : World} (h : Below W.heap.size W W') : Turns B W W' where
  size := h.size
  same := ⟨h.os, h.tape, h.output⟩
  keep c o ho _ := by rw [h.block c (Array.getElem?_eq_some_iff.1 ho).1]; exact ho

theorem ptr_is {W : World} {M : Ctx} {b ver off c base : Nat} {v : Value} (h : Rep W M (.ptr b ver off) v) (hv : (M b).ver = ver) (hl : (M b).loc = some (.mem c base)) : v = .pointer (some ⟨c, base + off, none⟩) := by
  cases h with
  | ptr _ _ _ _ h0 h1 _ =>
    have := h1 hv
    rw [hl] at this; exact this

theorem twoM_live {M : Ctx} {b0 b1 c1 base1 c : Nat} (h : Live (twoM M b0 b1 c1 base1) c) : c = c1 ∨ ∃ base, (M b0).loc = some (.mem c base) := by
  obtain ⟨b, base, h, ho⟩ := h
  simp only [twoM, updM] at h ho
  split at h
  · injection h with h; injection h with h; exact .inl h.symm
  · rename_i hne
    rw [if_neg hne] at ho
    by_cases hb : b = b0
    · subst hb; rw [boxM_loc] at h; exact .inr ⟨base, h⟩
    · rw [boxM_opq hb] at ho
      rw [boxM_loc] at h
      rw [h] at ho; cases ho

variable {w2 : World} {M2 : Ctx} {n ver cb bb sz : Nat} {w : List Int} {l : List Ed} {k : Nat} {W W' : World}

def K14 (n ver : Nat) (M2 : Ctx) (e : Ed) (s : St) : Prop := s.h = muteH M2 ∧ s.sl.length = 69 ∧ nth s.sl 10 = .ptr (n + 10) ver 0 ∧ nth s.sl 12 = .ptr (n + 69 + 12) 1 0 ∧ s.lc = (List.replicate 69 blk0).set 12 ⟨1, .cells (edD e).cells⟩

theorem run_14 (n ver : Nat) (M2 : Ctx) (e : Ed) : aops prog (r14.toList.map (aoper prog r14)) ⟨n + 69, ((List.replicate 69 .top).set 10 (.ptr (n + 10) ver 0)).set 64 (edD e), muteH M2, List.replicate 69 blk0⟩ (K14 n ver M2 e) := by
  rw [r_14, ← aopsS_eq]
  unfold edD
  generalize hH : muteH M2 = H at *
  generalize hN : n + 69 = N
  simp -implicitDefEqProofs only [↓symPre, symPost, y_condP, y_condG, run, lver, minD, intsD, eqAll, tupD, splice, Nat.zero_add, Nat.add_zero, Nat.zero_mul, Nat.mul_one, Nat.one_mul, Nat.reduceAdd, Nat.reduceSub, Nat.reduceMul, Nat.reduceLT, Nat.reduceLeDiff, Nat.reduceEqDiff, true_and, and_true, true_implies, if_true, if_false, ite_true, reduceIte, ne_eq, not_false_eq_true, reduceCtorEq, forall_const, bne_self_eq_false, Bool.true_eq_false, Bool.false_eq_true, false_implies, and_self, implies_true, Int.toNat_zero, beq_self_eq_true, decide_true, decide_false, Bool.not_true, Bool.not_false, ↓y_call]
  subst hN
  exact ⟨hH.symm, rfl, rfl, rfl, rfl⟩

def K15 (n ver : Nat) (acc : List Int) (s : St) : Prop := s.h (n + 10) = ⟨ver, .cells [iD acc]⟩

theorem run_15 {n ver : Nat} {M2 : Ctx} (acc : List Int) (e : Ed) (hv : (M2 (n + 10)).ver = ver) (hok : okE acc.length e) (ha : acc.length < 2 ^ 30) (he : e.w.length < 2 ^ 30) :
    aops prog (r15.toList.map (aoper prog r15)) ⟨n + 69, ((List.replicate 69 .top).set 10 (.ptr (n + 10) ver 0)).set 12 (.ptr (n + 69 + 12) 1 0), boxH M2 (n + 10) [iD acc], (List.replicate 69 blk0).set 12 ⟨1, .cells (edD e).cells⟩⟩ (K15 n ver (applyL acc e)) := by
  rw [r_15, ← aopsS_eq]
  have pa := pure_applyE acc e ha he hok
  unfold edD at *
  have hh : boxH M2 (n + 10) [iD acc] (n + 10) = ⟨ver, .cells [iD acc]⟩ := by simp [boxH, hv]
  have hb : n + 10 < n + 69 := by omega
  generalize boxH M2 (n + 10) [iD acc] = H at *
  generalize hN : n + 69 = N at *
  generalize hB0 : n + 10 = b0 at *
  simp -implicitDefEqProofs only [↓symPre, symPost, y_condP, y_condG, run, lver, minD, intsD, eqAll, tupD, splice, Nat.zero_add, Nat.add_zero, Nat.zero_mul, Nat.mul_one, Nat.one_mul, Nat.reduceAdd, Nat.reduceSub, Nat.reduceMul, Nat.reduceLT, Nat.reduceLeDiff, Nat.reduceEqDiff, true_and, and_true, true_implies, if_true, if_false, ite_true, reduceIte, ne_eq, not_false_eq_true, reduceCtorEq, forall_const, bne_self_eq_false, Bool.true_eq_false, Bool.false_eq_true, false_implies, and_self, implies_true, Int.toNat_zero, beq_self_eq_true, decide_true, decide_false, Bool.not_true, Bool.not_false, ↓y_call, ↓y_at_old hb, hh, hb]
  refine pa.call rfl ?_
  simp -implicitDefEqProofs only [↓symPre, symPost, y_condP, y_condG, run, lver, minD, intsD, eqAll, tupD, splice, Nat.zero_add, Nat.add_zero, Nat.zero_mul, Nat.mul_one, Nat.one_mul, Nat.reduceAdd, Nat.reduceSub, Nat.reduceMul, Nat.reduceLT, Nat.reduceLeDiff, Nat.reduceEqDiff, true_and, and_true, true_implies, if_true, if_false, ite_true, reduceIte, ne_eq, not_false_eq_true, reduceCtorEq, forall_const, bne_self_eq_false, Bool.true_eq_false, Bool.false_eq_true, false_implies, and_self, implies_true, Int.toNat_zero, beq_self_eq_true, decide_true, decide_false, Bool.not_true, Bool.not_false, ↓y_call, ↓y_at_old hb, hh, hb]
  subst hB0
  show upd H (n + 10) _ (n + 10) = _
  rw [upd_same]

def K16 (n ver : Nat) (res : List Int) (s : St) : Prop := s.h (n + 10) = ⟨ver, .cells [iD res]⟩ ∧ s.sl.length = 69 ∧ nth s.sl 4 = iD res ∧ nth s.sl 5 = .int .i64 0

theorem run_16 {n ver : Nat} {M2 : Ctx} (acc : List Int) (hv : (M2 (n + 10)).ver = ver) :
    aops prog (r16.toList.map (aoper prog r16)) ⟨n + 69, (List.replicate 69 .top).set 10 (.ptr (n + 10) ver 0), boxH M2 (n + 10) [iD acc], List.replicate 69 blk0⟩ (K16 n ver acc) := by
  rw [r_16, ← aopsS_eq]
  have hh : boxH M2 (n + 10) [iD acc] (n + 10) = ⟨ver, .cells [iD acc]⟩ := by simp [boxH, hv]
  have hb : n + 10 < n + 69 := by omega
  generalize boxH M2 (n + 10) [iD acc] = H at *
  generalize hN : n + 69 = N at *
  generalize hB0 : n + 10 = b0 at *
  simp -implicitDefEqProofs only [↓symPre, symPost, y_condP, y_condG, run, lver, minD, intsD, eqAll, tupD, splice, Nat.zero_add, Nat.add_zero, Nat.zero_mul, Nat.mul_one, Nat.one_mul, Nat.reduceAdd, Nat.reduceSub, Nat.reduceMul, Nat.reduceLT, Nat.reduceLeDiff, Nat.reduceEqDiff, true_and, and_true, true_implies, if_true, if_false, ite_true, reduceIte, ne_eq, not_false_eq_true, reduceCtorEq, forall_const, bne_self_eq_false, Bool.true_eq_false, Bool.false_eq_true, false_implies, and_self, implies_true, Int.toNat_zero, beq_self_eq_true, decide_true, decide_false, Bool.not_true, Bool.not_false, ↓y_call, ↓y_at_old hb, hh, hb]
  subst hB0
  exact ⟨hh, rfl, rfl, rfl⟩

/-! ### a round -/
theorem round_assign (hB : Box w2 M2 n ver cb bb sz w) {Bs bo : Nat} {ad : Option Addr} {cap : Nat} {c0 c1 c2 : Nat → Value} (hL : Lies w2 M2 l Bs bo ad cap c0 c1 c2) (r : Nat) (hk : k < l.length) (hI : RI w2 M2 cb bb sz w l k W) {T : Array Value} (hT : T.size = 69)
    (hbox : Rep w2 M2 (.ptr (n + 10) ver 0) (T.getD 10 undef)) (i : Int) : (Code.region 14 r14 false).wpIn (Fence.wide.inRound r) 1 prog (fun e a₁ W₁ => e = .normal ∧ RA w2 M2 cb bb sz w l k a₁ W₁ ∧ Below W.heap.size W W₁)
      { tmps := (T.setIfInBounds 63 (.int .i64 i)).setIfInBounds 64 (.agg #[c0 (l.length - 1 - k), c1 (l.length - 1 - k), c2 (l.length - 1 - k)]), defers := [] } W := by
  have hm : Mutes (n + 69) W M2 := hB.mutes.mono hI.size
  have hbx : T.getD 10 undef = .pointer (some ⟨cb, bb + 0, none⟩) := ptr_is hbox hB.ver hB.loc
  have hs : SimA ⟨n + 69, ((List.replicate 69 .top).set 10 (.ptr (n + 10) ver 0)).set 64 (edD (edAt l (l.length - 1 - k))), muteH M2, List.replicate 69 blk0⟩
      { tmps := (T.setIfInBounds 63 (.int .i64 i)).setIfInBounds 64 (.agg #[c0 (l.length - 1 - k), c1 (l.length - 1 - k), c2 (l.length - 1 - k)]), defers := [] } W (mute M2) := by
    refine ⟨rfl, by simp [hT], ((Slots.top 69).set ?_).set ?_, ?_⟩
    · have e : ((T.setIfInBounds 63 (.int .i64 i)).setIfInBounds 64 (.agg #[c0 (l.length - 1 - k), c1 (l.length - 1 - k), c2 (l.length - 1 - k)])).getD 10 undef = T.getD 10 undef := by
        simp [Array.getD_eq_getD_getElem?, Array.getElem?_setIfInBounds]
      rw [e, hbx]
      exact .ptr _ _ _ _ (by show ver ≤ (M2 (n + 10)).ver; rw [hB.ver]; exact Nat.le_refl _) (fun _ => by show PtrOk (M2 (n + 10)).loc 0 _; rw [hB.loc]; rfl) ⟨_, rfl⟩
    · have e : ((T.setIfInBounds 63 (.int .i64 i)).setIfInBounds 64 (.agg #[c0 (l.length - 1 - k), c1 (l.length - 1 - k), c2 (l.length - 1 - k)])).getD 64 undef = .agg #[c0 (l.length - 1 - k), c1 (l.length - 1 - k), c2 (l.length - 1 - k)] := by
        simp [Array.getD_eq_getD_getElem?, Array.getElem?_setIfInBounds, hT]
      rw [e]
      exact rep_mute (hI.rep hB (hL.rep _ (by omega)) (free_edD _))
    · show Sim W (mute M2) (mrg (n + 69) (muteH M2) (List.replicate 69 blk0))
      rw [mrg_blk0]; exact hm.sim
  refine region_round hs (plainOps_spec p_14) (run_14 n ver M2 _) ?_
  rintro ⟨n', sl', h', lc'⟩ a' W1 M' hn ⟨k1, k2, k3, k4, k5⟩ hs' hg
  simp only at hn k1 k2 k3 k4 k5
  subst hn; subst k1; subst k5
  replace hg : Grows (n + 69) W (mute M2) W1 M' := hg
  have hbel := hg.below
  have hopq : M' (n + 10) = mute M2 (n + 10) := hg.opq (n + 10) (by omega) (by show (M2 (n + 10)).loc.isSome = true; rw [hB.loc]; rfl)
  have hTl : a'.tmps.size = 69 := hs'.size.trans k2
  have hlt2 : (((List.replicate 69 blk0).set 12 ⟨1, .cells (edD (edAt l (l.length - 1 - k))).cells⟩) : List Blk)[12]? = some ⟨1, .cells (edD (edAt l (l.length - 1 - k))).cells⟩ := rfl
  obtain ⟨v1, cc, base, C, e, q1, q2, q3, q4⟩ := at_mem hs' (b := n + 69 + 12) (ver := 1) (cs := (edD (edAt l (l.length - 1 - k))).cells) (by show mrg (n + 69) _ _ _ = _; rw [mrg_loc]; rfl) (by simp [edD, D.cells])
  have ho1 : (M' (n + 69 + 12)).opq = false := by
    rw [hs'.sim.opq]
    show (mrg (n + 69) _ _ (n + 69 + 12)).con.isOpq = false
    rw [mrg_loc]; rfl
  have hnew := new_loc (n := n + 69) (t := 12) hm.sim hs'.sim hg q1 ho1
  have hocc := hg.occ_mute hm
  obtain ⟨Cb, eb, vb, p1, p2, p3, p4⟩ := hI.cell
  have hcb : cb < W.heap.size := (Array.getElem?_eq_some_iff.1 p1).1
  have hstep : Step W (mute M2) W1 M' := hg.step
    (fun b hb => by obtain ⟨h1, h2⟩ := hm.high b hb; simp [mute, h1, h2, hole])
    (fun b hb h0 => by
      have e1 := hs'.sim.ver b
      have e2 := hs'.sim.con b
      rw [h0] at e1
      obtain ⟨i, rfl⟩ : ∃ i, b = n + 69 + i := ⟨b - (n + 69), by omega⟩
      simp only [St.hp] at e1 e2
      rw [mrg_loc] at e1 e2
      by_cases hi : i = 12
      · subst hi; simp at e1
      · have e3 : ((List.replicate 69 blk0).set 12 ⟨1, .cells (edD (edAt l (l.length - 1 - k))).cells⟩).getD i blk0 = blk0 := by
          simp only [List.getD, List.getElem?_set_ne (Ne.symm hi), List.getElem?_replicate]
          split <;> rfl
        rw [e3] at e2
        exact e2)
    (fun b c base h => hm.known b c base h)
  refine ⟨rfl, ⟨hI.turns (.of_below hbel), hs'.defers, hTl, ?_, cc, base, C, e, Cb, eb, vb, M', ?_, ?_, q2, ?_, q4, ⟨(hbel.block _ hcb).trans p1, p2, p3, (rep_mute p4).step hstep⟩, hocc, ⟨_, _, q1⟩⟩, hbel⟩
  · have := Slots.get hs'.sl k3 hs'.size (by show 10 < sl'.length; omega)
    exact ptr_is this (by rw [hopq]; exact hB.ver) (by rw [hopq]; exact hB.loc)
  · have := Slots.get hs'.sl k4 hs'.size (by show 12 < sl'.length; omega)
    exact ptr_is this v1 q1
  · exact Nat.le_trans hI.size hnew
  · have : (edD (edAt l (l.length - 1 - k))).cells.length = 3 := rfl
    omega

theorem round_body (hB : Box w2 M2 n ver cb bb sz w) (hw : w.length + newK l < 2 ^ 30) (hok : okUp w.length l l.length) (r : Nat) (hk : k < l.length) {a : Act} (hA : RA w2 M2 cb bb sz w l k a W) :
    (Code.block 3 (.region 15 r15 false)).wpIn (Fence.wide.inRound r) 1 prog (fun e a₂ W' => e = .normal ∧ RI w2 M2 cb bb sz w l (k + 1) W' ∧ ∀ c, w2.heap.size ≤ c → c < W.heap.size → (∀ C t fr, W.heap[c]? ≠ some (.cells C t fr)) → W'.heap[c]? = W.heap[c]?) a W := by
  obtain ⟨hI, hdf, hTs, hbx, cc, base, C1, e1, C, e, v, M', q1, q2, q3, q4, q5, ⟨q6, q7, q8, q9⟩, q10, q11⟩ := hA
  have hm : Mutes (n + 69) W M2 := hB.mutes.mono hI.size
  have hnew : ¬ Occ M2 cc := fun ⟨b, base, h⟩ => by have := hB.mutes.known b cc base h; omega
  have hto : ∀ {d : D} {v : Value}, Free d → Rep W M' d v → Rep W (twoM M2 (n + 10) (n + 69 + 12) cc base) d v := fun hf hr => hr.to (fun c hc => by
    rcases twoM_occ hc with h | h
    · exact q10 c h
    · rw [h]; exact q11) hf
  have hbb : bb < C.size := (Array.getElem?_eq_some_iff.1 q8).1
  have hN10 : twoM M2 (n + 10) (n + 69 + 12) cc base (n + 10) = ⟨(M2 (n + 10)).ver, (M2 (n + 10)).loc, false⟩ := by
    simp [twoM, updM, boxM, show n + 10 ≠ n + 69 + 12 by omega]
  have hN12 : twoM M2 (n + 10) (n + 69 + 12) cc base (n + 69 + 12) = ⟨1, some (.mem cc base), false⟩ := by simp [twoM, updM]
  have hs : SimA ⟨n + 69, ((List.replicate 69 .top).set 10 (.ptr (n + 10) ver 0)).set 12 (.ptr (n + 69 + 12) 1 0), boxH M2 (n + 10) [iD (accK w l k)], (List.replicate 69 blk0).set 12 ⟨1, .cells (edD (edAt l (l.length - 1 - k))).cells⟩⟩ a W (twoM M2 (n + 10) (n + 69 + 12) cc base) := by
    refine ⟨hdf, by simp [hTs], ((Slots.top 69).set ?_).set ?_, ?_⟩
    · rw [hbx]
      exact .ptr _ _ _ _ (by rw [hN10, hB.ver]; exact Nat.le_refl _) (fun _ => by rw [hN10, hB.loc]; rfl) ⟨_, rfl⟩
    · rw [q1]
      exact .ptr _ _ _ _ (by rw [hN12]; exact Nat.le_refl _) (fun _ => by rw [hN12]; rfl) ⟨_, rfl⟩
    · refine two_sim hm (by omega) hB.loc q6 (by simp; omega) (fun j d hd => ?_) hnew q3 (by have : (edD (edAt l (l.length - 1 - k))).cells.length = 3 := rfl; omega) (fun j d hd => ?_) rfl fun i hi => ?_
      · rcases j with _ | j
        · simp at hd; subst hd
          exact ⟨v, q8, hto (free_iD _) q9⟩
        · simp at hd
      · obtain ⟨u, hu, hr⟩ := q5 j d hd
        exact ⟨u, hu, hto ((free_edD _).cells d (List.mem_of_getElem? hd)) hr⟩
      · simp only [List.getD, List.getElem?_set_ne (Ne.symm hi), List.getElem?_replicate]
        split <;> rfl
  have h5 := newK_at l (i := l.length - 1 - k) (by omega)
  have h6 := accK_len hok k
  refine wpIn_block (region_round hs (plainOps_spec p_15) (run_15 (accK w l k) _ hB.ver (accK_ok hok hk) (by omega) (by omega)) ?_)
  rintro ⟨n', sl', h', lc'⟩ a' W' N' hn k1 hs' hg
  simp only at hn
  subst hn
  replace k1 : h' (n + 10) = _ := k1
  replace hg : Grows (n + 69) W (twoM M2 (n + 10) (n + 69 + 12) cc base) W' N' := hg
  rw [← accK_succ w hk] at k1
  obtain ⟨v1, c', base', C', e', p1, p2, p3, p4⟩ := at_mem hs' (b := n + 10) (ver := ver) (cs := [iD (accK w l (k + 1))]) (by show mrg (n + 69) _ _ _ = _; rw [mrg_lt (by omega)]; exact k1) (by simp)
  have hloc : (N' (n + 10)).loc = some (.mem cb bb) := by
    rcases hg.loc (n + 10) (by omega) (by rw [v1, hN10, hB.ver]) with h | h
    · rw [h] at p1; cases p1
    · rw [h, hN10]; exact hB.loc
  rw [hloc] at p1
  injection p1 with p1; injection p1 with p1 p1'; subst p1; subst p1'
  have hnl : ∀ c, c < W.heap.size → c ≠ cc → c ≠ cb → W'.heap[c]? = W.heap[c]? := fun c hc h1 h2 => hg.imm c hc fun hlv => by
    rcases twoM_live hlv with h | ⟨b, h⟩
    · exact h1 h
    · rw [hB.loc] at h; injection h with h; injection h with h; exact h2 h.symm
  have hcbs := hB.size
  refine ⟨rfl, ⟨Nat.le_trans hI.size hg.size, hI.same.trans hg.same, fun c hc hne => (hnl c (Nat.lt_of_lt_of_le hc hI.size) (by omega) hne).trans (hI.keep c hc hne), ?_⟩, fun c h1 h2 h3 => hnl c h2 (fun e => h3 _ _ _ (e ▸ q3)) (by omega)⟩
  obtain ⟨u, hu, hr⟩ := p4 0 _ rfl
  refine ⟨C', e', u, p2, ?_, by simpa using hu, hr.to (fun c hc => ?_) (free_iD _)⟩
  · obtain ⟨C0, e0, fr0, z1, z2⟩ := hg.shape cb (Nat.lt_of_lt_of_le hcbs hI.size) _ _ _ p2
    rw [q6] at z1; injection z1 with z1; injection z1 with z1; subst z1
    rw [← z2]; exact q7
  · obtain ⟨b, bs, hb⟩ := hc
    have hbn : b < n + 69 := Nat.lt_of_not_le fun hle => by rw [(hB.mutes.high b hle).2] at hb; cases hb
    by_cases hbe : b = n + 10
    · subst hbe; rw [hB.loc] at hb; exact ⟨n + 10, bs, by rw [hloc]; exact hb⟩
    · have e1 : twoM M2 (n + 10) (n + 69 + 12) cc base b = boxM M2 (n + 10) b := by simp [twoM, updM, show b ≠ n + 69 + 12 by omega]
      have e2 := hg.opq b hbn (by rw [e1, boxM_opq hbe, hb]; rfl)
      exact ⟨b, bs, by rw [e2, e1, boxM_loc]; exact hb⟩

end Abs
end Go.Proofs.Ytfojedaccfenfab
