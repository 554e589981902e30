/- edit.Run's contract. -/
import Derived.Test.YtfojedaccfenfabU8
namespace Go.Proofs.Ytfojedaccfenfab
namespace Abs
open Go.RowKit (Below)
set_option linter.unusedVariables false
set_option linter.unusedSimpArgs false
set_option maxRecDepth 20000

def K13 (n ver : Nat) (h : Heap) (lc : List Blk) (l : List Ed) : Exit → St → Prop
  | .normal, s => s.h = h ∧ s.lc = lc ∧ s.sl.length = 69 ∧ nth s.sl 10 = .ptr (n + 10) ver 0 ∧ nth s.sl 62 = .fn F_slices_Backward_edit_Edit_edit_Edit_1 [.adr [.lst (l.map edD)]]
  | _, _ => False

theorem run_13 (n ver : Nat) (h : Heap) (lc : List Blk) (l : List Ed) (hl : LowH n h) :
    awp prog (seqAC ([r13].map (compC prog))) (K13 n ver h lc l) ⟨n, ((List.replicate 69 .top).set 1 (.lst (l.map edD))).set 10 (.ptr (n + 10) ver 0), h, lc⟩ := by
  rw [r_13, ← awpS_eq]
  simp -implicitDefEqProofs only [↓symPre, symPost, y_condP, y_condG, run, lver, minD, intsD, eqAll, tupD, splice, Nat.zero_add, Nat.add_zero, Nat.zero_mul, Nat.mul_one, Nat.one_mul, Nat.reduceAdd, Nat.reduceSub, Nat.reduceMul, Nat.reduceLT, Nat.reduceLeDiff, Nat.reduceEqDiff, true_and, and_true, true_implies, if_true, if_false, ite_true, reduceIte, ne_eq, not_false_eq_true, reduceCtorEq, forall_const, bne_self_eq_false, Bool.true_eq_false, Bool.false_eq_true, false_implies, and_self, implies_true, Int.toNat_zero, beq_self_eq_true, decide_true, decide_false, Bool.not_true, Bool.not_false, ↓y_call]
  refine (pure_Backward l).call rfl ?_
  simp -implicitDefEqProofs only [↓symPre, symPost, y_condP, y_condG, run, lver, minD, intsD, eqAll, tupD, splice, Nat.zero_add, Nat.add_zero, Nat.zero_mul, Nat.mul_one, Nat.one_mul, Nat.reduceAdd, Nat.reduceSub, Nat.reduceMul, Nat.reduceLT, Nat.reduceLeDiff, Nat.reduceEqDiff, true_and, and_true, true_implies, if_true, if_false, ite_true, reduceIte, ne_eq, not_false_eq_true, reduceCtorEq, forall_const, bne_self_eq_false, Bool.true_eq_false, Bool.false_eq_true, false_implies, and_self, implies_true, Int.toNat_zero, beq_self_eq_true, decide_true, decide_false, Bool.not_true, Bool.not_false, ↓y_call]
  exact ⟨rfl, rfl, rfl, rfl, rfl⟩

variable {w2 : World} {M2 : Ctx} {n ver cb bb sz : Nat} {w : List Int} {l : List Ed} {k : Nat} {W W' : World}

/-- what the range leaves is a step of the frame's -/
theorem RI.step {h : Heap} {lc : List Blk} (hB : Box w2 M2 n ver cb bb sz w) (hI : RI w2 M2 cb bb sz w l k W) (hs : Sim w2 M2 (mrg n h lc)) (hlc : lc.length = 69) (ho : (M2 (n + 10)).opq = false) :
    Step w2 M2 W M2 ∧ Sim W M2 (mrg n h (lc.set 10 ⟨ver, .cells [iD (accK w l k)]⟩)) := by
  obtain ⟨C, e, v, h1, h2, h3, h4⟩ := hI.cell
  have hSt : Step w2 M2 W M2 := ⟨hI.size, fun _ => Nat.le_refl _, fun _ _ => .inr rfl, fun _ _ h => h, fun _ _ h => h, fun c hc hnl => hI.keep c hc fun e => hnl (e ▸ ⟨n + 10, bb, hB.loc, ho⟩), fun c hc C' e' fr' hh => by
      by_cases hcc : c = cb
      · subst hcc
        obtain ⟨C0, e0, v0, z1, z2, _⟩ := hB.cell
        rw [h1] at hh; injection hh with hh; injection hh with hh; subst hh
        exact ⟨C0, e0, _, z1, by rw [z2, h2]⟩
      · rw [hI.keep c hc hcc] at hh; exact ⟨C', e', fr', hh, rfl⟩, hs.known, fun _ _ => rfl, hI.same⟩
  refine ⟨hSt, ?_⟩
  rw [← mrg_upd_loc _ (by omega)]
  have hbb : bb < C.size := (Array.getElem?_eq_some_iff.1 h3).1
  refine ⟨fun b => ?_, fun b => ?_, hs.inj, fun b => ?_⟩
  · by_cases hb : b = n + 10
    · subst hb; rw [upd_same]; exact hB.ver
    · rw [upd_ne hb]; exact hs.ver b
  · by_cases hb : b = n + 10
    · subst hb; rw [upd_same]
      refine .inr ⟨cb, bb, C, e, hB.loc, h1, by simp; omega, fun j d hd => ?_⟩
      rcases j with _ | j
      · simp at hd; subst hd; exact ⟨v, h3, h4⟩
      · simp at hd
    · rw [upd_ne hb]
      exact (hs.con b).step hSt fun c base hl => hI.keep c (hs.known b c base hl) fun e => hb (hs.inj b (n + 10) c base bb hl (e ▸ hB.loc))
  · by_cases hb : b = n + 10
    · subst hb; rw [upd_same]; exact ho
    · rw [upd_ne hb]; exact hs.opq b

theorem boxM_live {M : Ctx} {b0 c : Nat} (h : Live (boxM M b0) c) : ∃ base, (M b0).loc = some (.mem c base) := by
  obtain ⟨b, base, h, ho⟩ := h
  by_cases hb : b = b0
  · subst hb; rw [boxM_loc] at h; exact ⟨base, h⟩
  · rw [boxM_opq hb] at ho
    rw [boxM_loc] at h
    rw [h] at ho; cases ho

theorem round_done (hB : Box w2 M2 n ver cb bb sz w) {h : Heap} {lc : List Blk} (hsim : Sim w2 M2 (mrg n h lc)) (hlc : lc.length = 69) (ho : (M2 (n + 10)).opq = false) (hlow : LowH n h) {w0 : World} {M0 : Ctx} (hg0 : Grows n w0 M0 w2 M2)
    {R : D → Heap → List Blk → Prop} (hR : R (.tup [iD (runB w l), .int .i64 0]) h []) {a : Act} (hdf : a.defers = []) (hT : a.tmps.size = 69) (hbox : Rep w2 M2 (.ptr (n + 10) ver 0) (a.tmps.getD 10 undef)) {Dd : Nat} (hD : w2.heap.size ≤ Dd)
    (hI : RI w2 M2 cb bb sz w l l.length W) (hK : W.heap[Dd]? = some (.deferred (some []))) :
    (Code.seq (.region 16 r16 false) .ret).wpIn Fence.wide 3 prog (bodyPostM Fence.wide 3 prog Try.f18 fun e w' => ∃ v d h' x M', e = .returned v ∧ R d h' x ∧ (∀ k ∈ x, 1 ≤ k.ver) ∧ Sim w' M' (mrg n h' x) ∧ Rep w' M' d v ∧ Grows n w0 M0 w' M')
      { a with defers := [{ target := .collected Dd, args := #[] }] } W := by
  have hm : Mutes (n + 69) W M2 := hB.mutes.mono hI.size
  have hbx : a.tmps.getD 10 undef = .pointer (some ⟨cb, bb + 0, none⟩) := ptr_is hbox hB.ver hB.loc
  obtain ⟨C, e, v, h1, h2, h3, h4⟩ := hI.cell
  have hbb : bb < C.size := (Array.getElem?_eq_some_iff.1 h3).1
  have hN10 : boxM M2 (n + 10) (n + 10) = ⟨(M2 (n + 10)).ver, (M2 (n + 10)).loc, false⟩ := by simp [boxM]
  have hs : SimA ⟨n + 69, (List.replicate 69 .top).set 10 (.ptr (n + 10) ver 0), boxH M2 (n + 10) [iD (accK w l l.length)], List.replicate 69 blk0⟩ a W (boxM M2 (n + 10)) := by
    refine ⟨hdf, by simp [hT], (Slots.top 69).set ?_, ?_⟩
    · rw [hbx]
      exact .ptr _ _ _ _ (by rw [hN10, hB.ver]; exact Nat.le_refl _) (fun _ => by rw [hN10, hB.loc]; rfl) ⟨_, rfl⟩
    · show Sim W _ (mrg (n + 69) _ (List.replicate 69 blk0))
      rw [mrg_blk0]
      refine box_sim hm (by omega) hB.loc h1 (by simp; omega) fun j d hd => ?_
      rcases j with _ | j
      · simp at hd; subst hd
        exact ⟨v, h3, h4.to (fun c hc => boxM_occ.1 hc) (free_iD _)⟩
      · simp at hd
  refine wpIn_seq (region_defers hs (fun o ho => (plainOps_spec p_16 o ho).1) (run_16 (accK w l l.length) hB.ver) ?_)
  rintro ⟨n', sl', h', lc'⟩ a' W3 N' hn ⟨k0, k1, k2, k3⟩ hs' hg
  simp only at hn k0 k1 k2 k3
  subst hn
  replace hg : Grows (n + 69) W (boxM M2 (n + 10)) W3 N' := hg
  obtain ⟨v1, c', base', C', e', p1, p2, p3, p4⟩ := at_mem hs' (b := n + 10) (ver := ver) (cs := [iD (accK w l l.length)]) (by show mrg (n + 69) _ _ _ = _; rw [mrg_lt (by omega)]; exact k0) (by simp)
  have hloc : (N' (n + 10)).loc = some (.mem cb bb) := by
    rcases hg.loc (n + 10) (by omega) (by rw [v1, hN10, hB.ver]) with h | h
    · rw [h] at p1; cases p1
    · rw [h, hN10]; exact hB.loc
  rw [hloc] at p1
  injection p1 with p1; injection p1 with p1 p1'; subst p1; subst p1'
  have hnl : ∀ c, c < W.heap.size → c ≠ cb → W3.heap[c]? = W.heap[c]? := fun c hc h2 => hg.imm c hc fun hlv => by
    obtain ⟨b, h⟩ := boxM_live hlv
    rw [hB.loc] at h; injection h with h; injection h with h; exact h2 h.symm
  have hcbs := hB.size
  have hocc : ∀ c, Occ M2 c → Occ N' c := fun c hc => by
    obtain ⟨b, bs, hb⟩ := hc
    have hbn : b < n + 69 := Nat.lt_of_not_le fun hle => by rw [(hB.mutes.high b hle).2] at hb; cases hb
    by_cases hbe : b = n + 10
    · subst hbe; rw [hB.loc] at hb; exact ⟨n + 10, bs, by rw [hloc]; exact hb⟩
    · have e2 := hg.opq b hbn (by rw [boxM_opq hbe, hb]; rfl)
      exact ⟨b, bs, by rw [e2, boxM_loc]; exact hb⟩
  have hDW : Dd < W.heap.size := (Array.getElem?_eq_some_iff.1 hK).1
  have hK3 : W3.heap[Dd]? = some (.deferred (some [])) := (hnl Dd hDW (by omega)).trans hK
  have hI3 : RI w2 M2 cb bb sz w l l.length W3 := by
    refine ⟨Nat.le_trans hI.size hg.size, hI.same.trans hg.same, fun c hc hne => (hnl c (Nat.lt_of_lt_of_le hc hI.size) hne).trans (hI.keep c hc hne), ?_⟩
    obtain ⟨u, hu, hr⟩ := p4 0 _ rfl
    refine ⟨C', e', u, p2, ?_, by simpa using hu, hr.to hocc (free_iD _)⟩
    obtain ⟨C0, e0, fr0, z1, z2⟩ := hg.shape cb (Nat.lt_of_lt_of_le hcbs hI.size) _ _ _ p2
    rw [h1] at z1; injection z1 with z1; injection z1 with z1; subst z1
    rw [← z2]; exact h2
  have ht : Turns w2.heap.size W3 (W3.putObj Dd (.deferred none)) := .putObj _ hD hK3 rfl
  obtain ⟨hSt, hSm⟩ := (hI3.turns ht).step hB hsim hlc ho
  show Code.ret.wpIn _ _ _ _ _ _
  refine wpIn_ret ⟨by simp, .inl ⟨Dd, _, rfl, run_takeDeferred hK3, ?_⟩⟩
  have hr4 := Slots.get hs'.sl k2 hs'.size (by show 4 < sl'.length; omega)
  have hr5 := Slots.get hs'.sl k3 hs'.size (by show 5 < sl'.length; omega)
  have hs4 : SimA ⟨n, ((List.replicate 69 .top).set 4 (iD (accK w l l.length))).set 5 (.int .i64 0), h, lc.set 10 ⟨ver, .cells [iD (accK w l l.length)]⟩⟩ { a' with defers := [] } (W3.putObj Dd (.deferred none)) M2 := by
    refine ⟨rfl, by show a'.tmps.size = _; rw [hs'.size]; simpa using k1, ((Slots.top 69).set ?_).set ?_, hSm⟩
    · exact (hr4.to hocc (free_iD _)).turns ht (free_iD _)
    · revert hr5
      show Rep W3 N' (.int .i64 0) (a'.tmps.getD 5 undef) → Rep _ _ (.int .i64 0) (a'.tmps.getD 5 undef)
      generalize a'.tmps.getD 5 undef = z
      intro hr5
      cases hr5
      exact .int ..
  refine fin_leave (a := { a' with defers := [] }) (fn := Try.f18) (P := prog) (n := n) hs4 ?hn (hg0.trans (hSt.grows n)) ?_
  case hn => rfl
  have : Try.f18.results.toList.map (compR prog) = [.tmp 4, .tmp 5] := by kernel_rfl
  rw [this, accK_all]
  refine fin_low hlow ?_ hR
  exact .tup _ fun c hc => by
    simp only [List.mem_cons, List.not_mem_nil, or_false] at hc
    rcases hc with rfl | rfl
    · exact low_ints n _
    · exact .int ..

/-- edit.Run -/
theorem pure_Run (w : List Int) (l : List Ed) (hw : w.length + newK l < 2 ^ 30) (hll : l.length < 2 ^ 30) : Pure prog F_edit_Run [iD w, .lst (l.map edD)] (.tup [iD (runL w l), .int .i64 (runF w.length l)]) := by
  intro n h
  refine ⟨by kernel_rfl, fun w0 M0 vs hsim hreps => ?_⟩
  have hlow := low_of_sim hsim
  refine callsIn_wide.1 (callsIn_of_wp_marks (n := 3) Try.func18 r_text trivial ?_ rfl)
  have hs0 := sim_enter 69 hsim hreps
  have hres : Try.f18.results.toList.map (compR prog) = [.tmp 4, .tmp 5] := by kernel_rfl
  obtain ⟨R, hRd⟩ : ∃ R : D → Heap → List Blk → Prop, (fun d h' x => h' = h ∧ x = [] ∧ d = .tup [iD (runL w l), .int .i64 (runF w.length l)]) = R := ⟨_, rfl⟩
  have hR : R (.tup [iD (runL w l), .int .i64 (runF w.length l)]) h [] := by rw [← hRd]; exact ⟨rfl, rfl, rfl⟩
  rw [hRd]
  have hnt : Try.f18.ntmps = 69 := by kernel_rfl
  rw [hnt]
  refine chain_sound (P := prog) rCs _ _ w0 M0 n w0 M0 rfl hs0 (.refl ..) (Q := preQ R n h w l) ?_ ?_ ?_
  · rw [r_cs, ← awpS_eq]; exact run_pre w l hw hll hlow hR
  · rintro ⟨n1, sl1, h1, lc1⟩ a1 w1 M1 hn ⟨q1, q2, q3, q4, q5, q6, ver, q7, q8⟩ hs1 hg1
    simp only at hn q1 q2 q3 q4 q5 q6 q7 q8
    subst hn; subst q2
    have hok : okUp w.length l l.length := by
      refine Decidable.byContradiction fun hno => ?_
      rw [runF, if_neg hno] at q5; cases q5
    rw [r_tail]
    refine wpIn_seq ?_
    have hs1' : SimA ⟨n1, ((List.replicate 69 .top).set 1 (.lst (l.map edD))).set 10 (.ptr (n1 + 10) ver 0), h1, lc1⟩ a1 w1 M1 :=
      ⟨hs1.defers, by rw [hs1.size]; simpa using q4, ((Slots.top 69).set (Slots.get hs1.sl q6 hs1.size (by show 1 < sl1.length; omega))).set (Slots.get hs1.sl q7 hs1.size (by show 10 < sl1.length; omega)), hs1.sim⟩
    refine chain_sound (P := prog) [r13] _ _ w1 M1 n1 w0 M0 rfl hs1' hg1 (Q := K13 n1 ver h1 lc1 l) (run_13 n1 ver h1 lc1 l hlow) ?_ ?_
    · rintro ⟨n2, sl2, h2, lc2⟩ a2 w2 M2 hn ⟨k1, k2, k3, k4, k5⟩ hs2 hg2
      simp only at hn k1 k2 k3 k4 k5
      subst hn; subst k1; subst k2
      have hT : a2.tmps.size = 69 := hs2.size.trans k3
      have hmut : Mutes (n2 + 69) w2 M2 := by
        refine Mutes.of_sim (h := mrg n2 h2 lc2) ?_
        have := mrg_nil n2 h2 lc2
        rw [q3] at this
        rw [this]; exact hs2.sim
      have hbk : mrg n2 h2 lc2 (n2 + 10) = ⟨ver, .cells [iD w]⟩ := by rw [mrg_loc]; simp [List.getD, q8]
      obtain ⟨v1, cb, bb, C, e, p1, p2, p3, p4⟩ := at_mem hs2 (b := n2 + 10) (ver := ver) (cs := [iD w]) hbk (by simp)
      have ho : (M2 (n2 + 10)).opq = false := by rw [hs2.sim.opq]; show (mrg n2 h2 lc2 (n2 + 10)).con.isOpq = false; rw [hbk]; rfl
      obtain ⟨v, hv, hrv⟩ := p4 0 _ rfl
      have hB : Box w2 M2 n2 ver cb bb C.size w := ⟨hmut, v1, p1, C, e, v, p2, rfl, by simpa using hv, hrv⟩
      have hbox := Slots.get hs2.sl k4 hs2.size (by show 10 < sl2.length; omega)
      have hfn := Slots.get hs2.sl k5 hs2.size (by show 62 < sl2.length; omega)
      obtain ⟨Bs, bo, u0, hfv, hbs, hbl, hcell, hru⟩ : ∃ Bs bo u0, a2.tmps.getD 62 undef = .func (.func F_slices_Backward_edit_Edit_edit_Edit_1) #[] #[.pointer (some ⟨Bs, bo, none⟩)] ∧ Bs < w2.heap.size ∧ ¬ Occ M2 Bs ∧ w2.cell? ⟨Bs, bo, none⟩ = some u0 ∧ Rep w2 M2 (.lst (l.map edD)) u0 := by
        generalize a2.tmps.getD 62 undef = z at hfn
        cases hfn with
        | fn f cs vs hl hh =>
          obtain ⟨x, rfl⟩ : ∃ x, vs = #[x] := by
            obtain ⟨vs⟩ := vs
            match vs, hl with
            | [x], _ => exact ⟨x, rfl⟩
          have hx := hh 0 _ _ rfl rfl
          cases hx with
          | adr cs ad u hsp hb hlv hc hr =>
            obtain ⟨Bs, bo, sp⟩ := ad
            simp only at hsp
            subst hsp
            have c0 := hc 0 _ rfl
            rw [Addr.lit_add] at c0
            exact ⟨Bs, bo, u 0, rfl, hb, hlv, c0, hr 0 _ rfl⟩
      obtain ⟨ad, cap, c0, c1, c2, rfl, hels, hrep⟩ := open_eds hru
      have hL : Lies w2 M2 l Bs bo ad cap c0 c1 c2 := ⟨hbs, hbl, hcell, hels, hrep⟩
      refine wpIn_block (wp_back (m := 0) (by omega) hfv (RI w2 M2 cb bb C.size w l) (RA w2 M2 cb bb C.size w l) (fun k W W' hi ht => hi.turns ht) (fun k a W W' hi ht => hi.turns ht) (fun k W hi => hi.eds hB hL) hB.start
        (fun r k W hk hi => round_assign hB hL r hk hi hT hbox _) (fun r k a₁ W hk hA => round_body hB hw hok r hk hA) fun D W hD hi hK => ?_)
      have hd := hs2.defers
      rw [hd]
      refine round_done hB hs2.sim q3 ho hlow hg2 ?_ hd hT hbox hD hi hK
      rw [runL, if_pos q5, q5] at hR
      exact hR
    · rintro e s1 a1 w1 M1 he hn hq hs1 hg1
      cases e <;> first | exact (he rfl).elim | exact hq.elim
  · rintro e s1 a1 w1 M1 he hn hq hs1 hg1
    cases e with
    | normal => exact (he rfl).elim
    | ret =>
      show LeavesInM _ _ _ _ _ _ a1.defers _ _
      rw [hs1.defers]
      exact fin_leave (fn := Try.f18) (P := prog) hs1 hn hg1 (by rw [hres]; exact hq)
    | _ => exact hq.elim

end Abs
end Go.Proofs.Ytfojedaccfenfab
