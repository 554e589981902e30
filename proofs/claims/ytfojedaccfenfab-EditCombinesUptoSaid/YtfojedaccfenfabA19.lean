/- Regions whose order is left open: whatever the order, the same state comes out. -/
import Derived.Test.YtfojedaccfenfabA18
import Derived.Test.YtfojedaccfenfabA13
namespace Go.Proofs.Ytfojedaccfenfab
namespace Abs
set_option linter.unusedVariables false

variable {P : Program} {s : St} {a : Act} {w : World} {M : Ctx}

theorem dopsGo_get {os : List AOper} {pre : List Nat} : ∀ (l : List AOper) (k i : Nat), (dopsGo os pre l k)[i]? = (l[i]?).map (dop os pre (k + i))
  | [], k, i => by simp [dopsGo]
  | o :: r, k, 0 => by simp [dopsGo]
  | o :: r, k, i + 1 => by
    simp only [dopsGo, List.getElem?_cons_succ]
    rw [dopsGo_get r (k + 1) i, show k + 1 + i = k + (i + 1) by omega]

theorem dops_get {os : List AOper} {pre : List Nat} (i : Nat) : (dops os pre)[i]? = (os[i]?).map (dop os pre i) := by
  unfold dops
  rw [dopsGo_get]; simp

theorem mem_unOf {m i j : Nat} {pre : List Nat} : j ∈ unOf m pre i ↔ j < m ∧ j ≠ i ∧ bit pre i j = false ∧ bit pre j i = false := by
  simp [unOf, List.mem_filter, and_assoc]

theorem apartA_spec {x y : AOper} (h : apartA x y = true) :
    (∀ d, x.dst = some d → d ∉ looks y) ∧ (∀ d, x.dst = some d → y.dst ≠ some d) ∧ (∀ d, y.dst = some d → d ∉ looks x) := by
  refine ⟨fun d hd => ?_, fun d hd => ?_, fun d hd => ?_⟩ <;> simp [apartA, hd] at h
  · exact h.1.1
  · exact h.1.2
  · exact h.2

theorem hide_shape (s : St) (bs : List Nat) : (s.hide bs).n = s.n ∧ (s.hide bs).lc.length = s.lc.length ∧ (s.hide bs).sl = s.sl := app_shape _ s

theorem adr_sound {id : Nat} {ops : Array Oper} {pre : List Nat} {dc : List (List Nat)} {Q : Exit → St → Prop} (hmix : P.follows .mixedOrders = true)
    (hp : preOk ops.toList pre = true) (ha : apartOk (ops.toList.map (aoper P ops)) pre = true)
    (h : adr P dc (dops (ops.toList.map (aoper P ops)) pre) 0 s (Q .normal)) : Awp P (.region id ops true) Q s := by
  intro a w M hs
  obtain ⟨ys, hys, hK, hfact⟩ := adr_facts _ _ _ h
  simp only [Nat.zero_add] at hfact
  refine wp_region_any hmix ?_
  -- the facts about the ops
  have hget : ∀ (i : Nat) (y : Out), ys[i]? = some y → ∃ o, ops[i]? = some o ∧ y.x = dop (ops.toList.map (aoper P ops)) pre i (aoper P ops o) := fun i y hy => by
    have h1 : (ys.map (·.x))[i]? = some y.x := by simp [hy]
    rw [hys, dops_get] at h1
    simp only [List.getElem?_map, Array.getElem?_toList, Option.map_map, Option.map_eq_some_iff, Function.comp] at h1
    obtain ⟨o, h2, h3⟩ := h1
    exact ⟨o, h2, h3.symm⟩
  have hlen : ys.length = ops.size := by
    have h1 := congrArg List.length hys
    have h2 : ∀ (os l : List AOper) (k : Nat), (dopsGo os pre l k).length = l.length := by
      intro os l
      induction l with
      | nil => intro; rfl
      | cons o l ih => intro k; simp [dopsGo, ih]
    simpa [dops, h2] using h1
  have hpre : ∀ (i : Nat) (o : Oper), ops[i]? = some o → (∀ e ∈ binding o, e < i) ∧ ∀ j, j < ops.size → bit pre i j = true → j < i ∧ ∃ e ∈ binding o, j = e ∨ bit pre e j = true := fun i o ho => by
    have hi : i < ops.size := (Array.getElem?_eq_some_iff.1 ho).1
    have h1 := List.all_eq_true.1 hp i (by simpa using hi)
    simp only [Array.getElem?_toList, ho, Bool.and_eq_true, List.all_eq_true, decide_eq_true_eq, Array.length_toList, List.mem_range, Bool.or_eq_true, Bool.not_eq_true', List.any_eq_true, beq_iff_eq] at h1
    refine ⟨h1.1, fun j hj hb => ?_⟩
    rcases h1.2 j hj with h2 | h2
    · rw [hb] at h2; cases h2
    · exact h2
  have hapart : ∀ (i j : Nat) (x y : Oper), ops[i]? = some x → ops[j]? = some y → j ≠ i → bit pre i j = false → bit pre j i = false →
      (∀ d, x.dst = some d → d ∉ looks (aoper P ops y)) ∧ (∀ d, x.dst = some d → y.dst ≠ some d) ∧ (∀ d, y.dst = some d → d ∉ looks (aoper P ops x)) := fun i j x y hx hy hne h1 h2 => by
    have hi : i < ops.size := (Array.getElem?_eq_some_iff.1 hx).1
    have hj : j < ops.size := (Array.getElem?_eq_some_iff.1 hy).1
    have key : ∀ (i j : Nat) (x y : Oper), ops[i]? = some x → ops[j]? = some y → j < i → i < ops.size → bit pre i j = false → apartA (aoper P ops x) (aoper P ops y) = true := fun i j x y hx hy hlt hi h1 => by
      have h3 := List.all_eq_true.1 ha i (by simpa using hi)
      have h4 := List.all_eq_true.1 h3 j (by simpa using hlt)
      simpa [h1, hx, hy] using h4
    rcases Nat.lt_or_gt_of_ne hne with hlt | hlt
    · obtain ⟨q1, q2, q3⟩ := apartA_spec (key i j x y hx hy hlt hi h1)
      exact ⟨q1, q2, q3⟩
    · obtain ⟨q1, q2, q3⟩ := apartA_spec (key j i y x hy hx hlt hj h2)
      exact ⟨q3, fun d hd he => q2 d he hd, q1⟩
  have hbind : ∀ (o : Oper) (L : Array Bool), (∀ e ∈ o.after, Region.binds .any e = true → L.getD e.on false = true) ↔ ∀ e ∈ binding o, L.getD e false = true := fun o L => by
    constructor
    · intro h e he
      simp only [binding, List.mem_map, List.mem_filter, Array.mem_toList_iff] at he
      obtain ⟨e', ⟨h1, h2⟩, rfl⟩ := he
      exact h e' h1 h2
    · intro h e he hb
      exact h e.on (List.mem_map.2 ⟨e, List.mem_filter.2 ⟨by simpa using he, hb⟩, rfl⟩)
  have go : ∀ (fuel : Nat) (L : Array Bool) (a : Act) (w1 : World) (M1 : Ctx), L.size = ops.size → L.toList.count false = fuel →
      (∀ i j, j < ops.size → L.getD i false = true → bit pre i j = true → L.getD j false = true) →
      SimA (wr ys 0 (fun j => L.getD j false) s) a w1 M1 → Grows s.n w M w1 M1 →
      wpAny P .any ops (fun e a' w' => ∃ s' M', s'.n = s.n ∧ Q e s' ∧ SimA s' a' w' M' ∧ Grows s.n w M w' M') fuel L a w1 := by
    intro fuel
    have fin : ∀ (L : Array Bool) (a : Act) (w1 : World) (M1 : Ctx), (∀ j, j < ops.size → L.getD j false = true) → SimA (wr ys 0 (fun j => L.getD j false) s) a w1 M1 → Grows s.n w M w1 M1 →
        ∃ s' M', s'.n = s.n ∧ Q .normal s' ∧ SimA s' a w1 M' ∧ Grows s.n w M w1 M' := fun L a w1 M1 hall hsim hg => by
      rw [wr_congr (m2 := fun _ => true) ys 0 s (fun i hi => by rw [Nat.zero_add]; exact hall i (by omega))] at hsim
      exact ⟨_, M1, (wr_shape ..).1, hK, hsim, hg⟩
    induction fuel with
    | zero =>
      intro L a w1 M1 hsz hc hcl hsim hg
      have hall : ∀ j, j < ops.size → L.getD j false = true := fun j hj => by
        have hj' : j < L.size := by omega
        have h1 := List.count_eq_zero.1 hc
        have h2 : L[j] ≠ false := fun e => h1 (by rw [← e]; simp)
        simpa [Array.getD, hj'] using h2
      refine ⟨?_, fin L a w1 M1 hall hsim hg⟩
      apply List.eq_nil_iff_forall_not_mem.2
      intro j hj
      obtain ⟨h1, o, h2, h3⟩ := mem_ready.1 hj
      have hj : j < ops.size := (Array.getElem?_eq_some_iff.1 h2).1
      have h4 := hall j hj
      have hj' : j < L.size := by omega
      simp [Array.getD, hj'] at h1 h4
      rw [h1] at h4; cases h4
    | succ fuel ih =>
      intro L a w1 M1 hsz hc hcl hsim hg
      refine ⟨fun hr => ?_, fun i hi => ?_⟩
      · refine fin L a w1 M1 (fun j => ?_) hsim hg
        induction j using Nat.strongRecOn with
        | ind j ihj =>
          intro hj
          have hj' : j < L.size := by omega
          by_cases hf : L[j] = true
          · simp [Array.getD, hj', hf]
          · exfalso
            have hm : j ∈ Region.ready .any ops L := by
              refine mem_ready.2 ⟨by simpa [Array.getD, hj'] using hf, ops[j], by simp [hj], (hbind _ L).2 fun e he => ?_⟩
              have h1 := (hpre j ops[j] (by simp [hj])).1 e he
              exact ihj e h1 (by omega)
            rw [hr] at hm; simp at hm
      · obtain ⟨h1, o, ho, h3⟩ := mem_ready.1 hi
        have hsm : i < ops.size := (Array.getElem?_eq_some_iff.1 ho).1
        have hsm' : i < L.size := by omega
        have hLi : L[i] = false := by simpa [Array.getD, hsm'] using h1
        have hLi' : L.getD i false = false := by simp [Array.getD, hsm', hLi]
        have h4 := (hbind o L).1 h3
        obtain ⟨y, hy⟩ : ∃ y, ys[i]? = some y := ⟨ys[i]'(by omega), by simp⟩
        obtain ⟨o', ho', hyx⟩ := hget i y hy
        rw [ho] at ho'; injection ho' with ho'; subst ho'
        have hyo : y.x.o = aoper P ops o := by rw [hyx]; rfl
        have hpreL : ∀ j, j < ops.size → bit pre i j = true → j < i ∧ L.getD j false = true := fun j hj hb => by
          obtain ⟨h5, e, he, h6⟩ := (hpre i o ho).2 j hj hb
          refine ⟨h5, ?_⟩
          rcases h6 with rfl | h6
          · exact h4 j he
          · exact hcl e j hj (h4 e he) h6
        have hpostL : ∀ j, j < ops.size → bit pre j i = true → i < j ∧ L.getD j false = false := fun j hj hb => by
          refine ⟨((hpre j ops[j] (by simp [hj])).2 i hsm hb).1, ?_⟩
          cases hx : L.getD j false with
          | false => rfl
          | true => have := hcl j i hsm hx hb; rw [hLi'] at this; cases this
        have hmask : ∀ j, j < ops.size → j ∉ unOf ops.size pre i → decide (j < i) = L.getD j false := fun j hj hnu => by
          by_cases hji : j = i
          · subst hji; rw [hLi']; simp
          · cases hb : bit pre i j with
            | true => obtain ⟨q1, q2⟩ := hpreL j hj hb; rw [q2]; simp [q1]
            | false =>
              cases hb' : bit pre j i with
              | true => obtain ⟨q1, q2⟩ := hpostL j hj hb'; rw [q2]; simp; omega
              | false => exact (hnu (mem_unOf.2 ⟨hj, hji, hb, hb'⟩)).elim
        have hf := hfact i y hy
        generalize hT : wr ys 0 (fun j => decide (j < i)) s = T at hf
        have hTs := wr_shape ys 0 (fun j => decide (j < i)) s
        rw [hT] at hTs
        generalize hS : wr ys 0 (fun j => L.getD j false) s = S at hsim
        have hSs := wr_shape ys 0 (fun j => L.getD j false) s
        rw [hS] at hSs
        -- what is changed beside the operation is hidden from it
        have hcov : ∀ (j : Nat) (z : Out), ys[j]? = some z → j ∈ unOf ops.size pre i → ∀ p ∈ z.δ, p.1 ∈ hidOf T.n dc y.x := fun j z hz hu p hpz => by
          obtain ⟨oj, hoj, hzx⟩ := hget j z hz
          have hfz := (hfact j z hz).1 p hpz
          rw [(wr_shape ys 0 (fun k => decide (k < j)) s).1] at hfz
          have h5 := hfz.1
          rw [hzx] at h5
          rw [hTs.1, hyx]
          simp only [covOf, dop, List.mem_append, List.mem_map] at h5
          simp only [hidOf, dop, List.mem_append, List.mem_map, List.mem_flatMap, List.mem_filter, List.length_map, Array.length_toList]
          rcases h5 with ⟨t, ht, h6⟩ | h5
          · refine .inl ⟨t, ⟨j, hu, ?_⟩, h6⟩
            simpa [hoj] using ht
          · cases he : isEff (aoper P ops oj).op with
            | false => rw [he] at h5; simp at h5
            | true =>
              rw [he] at h5
              exact .inr ⟨j, ⟨hu, by simp [hoj, he]⟩, by simpa using h5⟩
        have hslT : ∀ t, t ∈ looks (aoper P ops o) → nth T.sl t = nth S.sl t := fun t ht => by
          rw [← hT, ← hS]
          refine wr_sl ys 0 s s rfl rfl fun j z hz hd => ?_
          obtain ⟨oj, hoj, hzx⟩ := hget j z hz
          have hj : j < ops.size := (Array.getElem?_eq_some_iff.1 hoj).1
          rw [Nat.zero_add]
          refine hmask j hj fun hu => ?_
          obtain ⟨_, q1, q2, q3⟩ := mem_unOf.1 hu
          exact (hapart i j o oj ho hoj q1 q2 q3).2.2 t (by rw [hzx] at hd; exact hd) ht
        have hsub : Sub S (T.hide (hidOf T.n dc y.x)) (opds (aoper P ops o).op) := by
          have e := hide_shape T (hidOf T.n dc y.x)
          refine ⟨by rw [e.1, hTs.1, hSs.1], by rw [e.2.1, hTs.2.1, hSs.2.1], fun x hx => ?_, fun b => ?_⟩
          · cases x with
            | val d => rfl
            | tmp t =>
              show nth (T.hide _).sl t = nth S.sl t
              rw [e.2.2]
              exact hslT t (List.mem_append.2 (.inr (List.mem_filterMap.2 ⟨_, hx, rfl⟩)))
          · rcases hide_blk (b := b) (hidOf T.n dc y.x) T with h5 | ⟨h5, h6⟩
            · exact .inl h5
            · right
              rw [h5]
              by_cases hb : b < T.n + T.lc.length
              · rw [← hT, ← hS]
                refine wr_blk ys 0 s s rfl rfl rfl fun j z hz ⟨p, hpz, hpb⟩ => ?_
                obtain ⟨oj, hoj, hzx⟩ := hget j z hz
                have hj : j < ops.size := (Array.getElem?_eq_some_iff.1 hoj).1
                rw [Nat.zero_add]
                exact hmask j hj fun hu => h6 (by have := hcov j z hz hu p hpz; rwa [hpb] at this) hb
              · rw [blk_high (by omega), blk_high (by rw [hSs.1, hSs.2.1, ← hTs.1, ← hTs.2.1]; omega)]
        -- behind the operation
        have next : ∀ (a' : Act) (w' : World) (M' : Ctx), SimA (S.fin y.x.o.dst y.d y.δ) a' w' M' → Grows s.n w M w' M' → wpAny P .any ops (fun e a' w' => ∃ s' M', s'.n = s.n ∧ Q e s' ∧ SimA s' a' w' M' ∧ Grows s.n w M w' M') fuel (L.setIfInBounds i true) a' w' := fun a' w' M' hsim' hg' => by
          have hget' : ∀ j, (L.setIfInBounds i true).getD j false = if j = i then true else L.getD j false := fun j => by
            by_cases e : j = i
            · subst e; simp [Array.getD, hsm']
            · rw [if_neg e]; exact getD_set_ne false fun h => e h.symm
          refine ih _ a' w' M' (by simp [hsz]) ?_ ?_ ?_ hg'
          · have h5 : (L.setIfInBounds i true).toList = L.toList.set i true := by simp
            rw [h5, List.count_set (by simpa using hsm')]
            simp [hLi, hc]
          · intro k j hj hk hb
            rw [hget'] at hk ⊢
            split
            · rfl
            · rename_i hji
              by_cases hki : k = i
              · subst hki; exact (hpreL j hj hb).2
              · rw [if_neg hki] at hk; exact hcl k j hj hk hb
          · refine hsim'.eqv ?_
            rw [← hS]
            refine wr_add ys 0 i s y hy (by rw [Nat.zero_add]; exact hLi') (by rw [Nat.zero_add]; simp [hsm', Array.getD]) (fun j hj => by rw [Nat.zero_add] at hj; rw [hget', if_neg hj]) fun j z hij hz hLj => ?_
            rw [Nat.zero_add] at hLj
            obtain ⟨oj, hoj, hzx⟩ := hget j z hz
            have hj : j < ops.size := (Array.getElem?_eq_some_iff.1 hoj).1
            have hb1 : bit pre i j = false := by
              cases hb : bit pre i j with
              | false => rfl
              | true => have := (hpreL j hj hb).1; omega
            have hb2 : bit pre j i = false := by
              cases hb : bit pre j i with
              | false => rfl
              | true => have := (hpostL j hj hb).2; rw [this] at hLj; cases hLj
            have hne : j ≠ i := by omega
            refine ⟨fun t ht => ?_, fun p hp1 q hq1 e => ?_⟩
            · rw [hzx]
              exact (hapart i j o oj ho hoj hne hb1 hb2).2.1 t (by rw [hyo] at ht; exact ht)
            · refine (hf.1 p hp1).2 ?_
              rw [← e]
              exact hcov j z hz (mem_unOf.2 ⟨hj, hne, hb1, hb2⟩) q hq1
        have run1 : stepV P y.x.o (T.hide (hidOf T.n dc y.x)) (fun d' δ' => d' = y.d ∧ δ' = y.δ) → Region.wanted o (yielded ops a.tmps) = true →
            wpOp P ops (fun e a' w' => ∃ s' M', s'.n = s.n ∧ Q e s' ∧ SimA s' a' w' M' ∧ Grows s.n w M w' M') i (wpAny P .any ops (fun e a' w' => ∃ s' M', s'.n = s.n ∧ Q e s' ∧ SimA s' a' w' M' ∧ Grows s.n w M w' M') fuel (L.setIfInBounds i true)) a w1 := fun hst hw => by
          unfold wpOp
          simp only [ho]
          rw [if_pos hw]
          left
          rw [hyo] at hst
          refine Oper.wp_mono (fun a' w' ⟨d, δ, v, M', ⟨hd, hδ'⟩, hδ, ha', hstp, hsim', hr⟩ => ?_) (stepO_sound (ops := ops) hsim (stepV_sub hsub hst))
          subst hd; subst hδ'; subst ha'
          refine next _ w' M' ?_ (hg.trans (hstp.grows _))
          have := simA_put hsim hstp hr hδ hsim' o.dst
          rw [hyo]; exact this
        have hg2 := hf.2
        rw [hyo] at hg2
        split at hg2
        · rename_i hgd
          refine run1 (by rw [hyo]; exact hg2) ?_
          have : o.guard = none := by
            simp only [aoper, aguard] at hgd
            split at hgd
            · assumption
            · split at hgd <;> cases hgd
          simp [Region.wanted, this]
        · rename_i t want hgd
          obtain ⟨b, hb, hyes, hno⟩ := hg2
          obtain ⟨j, hgo, hj⟩ : ∃ j, o.guard = some (j, want) ∧ (ops[j]?).bind (·.dst) = some t := by
            simp only [aoper, aguard] at hgd
            split at hgd
            · cases hgd
            · rename_i j want' hgo
              split at hgd
              · rename_i t' hj
                injection hgd with h1 h2
                subst h1; subst h2
                exact ⟨j, hgo, hj⟩
              · cases hgd
          have hbS : nth S.sl t = .bool b := by
            rw [← hslT t (by simp [looks, hgd])]; exact hb
          have hyl : yielded ops a.tmps j = some b := by
            have ht : t < S.sl.length := by
              refine Nat.lt_of_not_le fun hle => ?_
              simp [nth, List.getD, List.getElem?_eq_none hle] at hbS
            have h1 := nth_get ht
            rw [hbS] at h1
            have ht2 : t < a.tmps.size := by rw [hsim.size]; exact ht
            have h2 := hsim.sl t _ a.tmps[t] h1 (by simp [ht2])
            generalize hv : a.tmps[t] = v at h2
            cases h2 with
            | bool _ =>
              unfold yielded
              rw [hj]
              simp [ht2, hv]
          by_cases hbw : b = want
          · exact run1 (by rw [hyo]; exact hyes hbw) (by simp [Region.wanted, hgo, hyl, hbw])
          · have hnw : Region.wanted o (yielded ops a.tmps) = false := by simp [Region.wanted, hgo, hyl, hbw]
            obtain ⟨e1, e2⟩ := hno hbw
            unfold wpOp
            simp only [ho, hnw, Bool.false_eq_true, if_false]
            obtain ⟨q1, q2⟩ := step_same (w' := w1) hsim.sim rfl
            refine next _ w1 M1 ?_ hg
            rw [e1, e2, hyo]
            exact simA_put hsim q1 (.top _) (δ := []) (by simp [St.inr]) hsim.sim o.dst
        · exact hg2.elim
  obtain ⟨q1, q2⟩ := step_same (w' := { w with drawn := w.drawn + 1 }) hs.sim rfl
  have hs' : SimA s a { w with drawn := w.drawn + 1 } M := ⟨hs.defers, hs.size, fun t d v hd hv => (hs.sl t d v hd hv).step q1, q2⟩
  refine go ops.size _ a _ M (by simp) (by simp) ?_ ?_ (q1.grows _)
  · intro i j hj hi hb
    simp [Array.getD] at hi
  · have : wr ys 0 (fun j => (Array.replicate ops.size false).getD j false) s = s := by
      have z0 : ∀ (l : List Out) (k : Nat) (s : St), wr l k (fun _ => false) s = s := by
        intro l
        induction l with
        | nil => intros; rfl
        | cons y l ih => intro k s; simp only [wr, Bool.false_eq_true, if_false]; exact ih _ _
      rw [wr_congr (m2 := fun _ => false) ys 0 s (fun i hi => by simp [Array.getD]), z0]
    rw [this]; exact hs'

end Abs
end Go.Proofs.Ytfojedaccfenfab
