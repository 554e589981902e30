/- Calls, and regions of operations in the order of the text; a function's body. -/
import Derived.Test.YtfojedaccfenfabA12
namespace Go.Proofs.Ytfojedaccfenfab
namespace Abs
set_option linter.unusedVariables false

inductive AGuard where
  | always
  | on (t : Nat) (want : Bool)
  | bad

structure AOper where
  dst : Option Nat
  op : AOp
  guard : AGuard

def aguard (ops : Array Oper) (o : Oper) : AGuard :=
  match o.guard with
  | none => .always
  | some (j, want) => match (ops[j]?).bind (·.dst) with
    | some t => .on t want
    | none => .bad

def aoper (P : Program) (ops : Array Oper) (o : Oper) : AOper := ⟨o.dst, comp P o.op, aguard ops o⟩

/-- a choice -/
def condP (b : Bool) (X Y : Prop) : Prop := match b with
  | true => X
  | false => Y
def condG (b want : Bool) (X Y : Prop) : Prop := match b, want with
  | true, true => X
  | false, false => X
  | true, false => Y
  | false, true => Y
theorem condP_iff (b : Bool) (X Y : Prop) : condP b X Y = ((b = true → X) ∧ (b = false → Y)) := by cases b <;> simp [condP]
theorem condG_iff (b want : Bool) (X Y : Prop) : condG b want X Y = ((b = want → X) ∧ (b ≠ want → Y)) := by cases b <;> cases want <;> simp [condG]

def setD (sl : List D) (dst : Option Nat) (d : D) : List D :=
  match dst with
  | some t => sl.set t d
  | none => sl

def isCall : AOp → Bool
  | .call _ _ | .callv _ _ => true
  | _ => false

/-- the state behind an operation -/
def St.fin (s : St) (dst : Option Nat) (d : D) (δ : Chg) : St := ⟨s.n, setD s.sl dst d, (s.app δ).h, (s.app δ).lc⟩

/-- what a call hands on: changes of blocks that were there; or a slice in an array of its own -/
def callK (s : St) (dst : Option Nat) (K : D → Chg → Prop) (d : D) (h' : Heap) (x : List Blk) : Prop :=
  (∃ δ, s.inr δ ∧ x = [] ∧ h' = app s.hp δ ∧ K d δ) ∨
  (∃ t sz len v cs, dst = some t ∧ t < s.lc.length ∧ (s.lc.getD t blk0).con.isOpq = false ∧ h' = s.hp ∧ x = [⟨v, .cells cs⟩] ∧ d = .ref sz (s.n + s.lc.length) v 0 len ∧
    (∀ c ∈ cs, Low (s.n + s.lc.length) c) ∧ K (.ref sz (s.n + t) (lver s.lc t) 0 len) [(s.n + t, ⟨lver s.lc t, .cells cs⟩)])

def stepO (P : Program) (o : AOper) (s : St) (K : D → Chg → Prop) : Prop :=
  match o.op with
  | .call f args => ACalls P f (args.map s.val) (s.n + s.lc.length) s.hp (callK s o.dst K)
  | .callv x args => match s.val x with
    | .fn f caps => ACalls P f (args.map s.val ++ caps) (s.n + s.lc.length) s.hp (callK s o.dst K)
    | _ => False
  | op => run s o.dst K op

def aops (P : Program) : List AOper → St → (St → Prop) → Prop
  | [], s, K => K s
  | o :: os, s, K => match o.guard with
    | .always => stepO P o s fun d δ => aops P os (s.fin o.dst d δ) K
    | .on t want => match nth s.sl t with
      | .bool b => condG b want (stepO P o s fun d δ => aops P os (s.fin o.dst d δ) K) (aops P os (s.fin o.dst (.tup []) []) K)
      | .tup [] => aops P os (s.fin o.dst (.tup []) []) K
      | _ => False
    | .bad => False

variable {P : Program} {s : St} {o : Oper} {a : Act} {w : World} {M : Ctx}

theorem Grows.le {n n' : Nat} {w w' : World} {M M' : Ctx} (h : Grows n w M w' M') (hn : n' ≤ n) : Grows n' w M w' M' :=
  ⟨h.size, fun b hb => h.ver b (by omega), fun b hb => h.loc b (by omega), h.occ, h.live, h.imm, h.shape, fun b hb => h.opq b (by omega), h.same⟩

theorem app1_len (s : St) (p : Nat × Blk) : (s.app1 p).n = s.n ∧ (s.app1 p).lc.length = s.lc.length ∧ (s.app1 p).sl = s.sl := by
  unfold St.app1; split <;> simp

theorem app1_hp {s : St} {p : Nat × Blk} (hp : p.1 < s.n + s.lc.length) : (s.app1 p).hp = upd s.hp p.1 p.2 := by
  unfold St.app1
  split
  · rename_i h; exact (mrg_upd_lt p.2 h).symm
  · rename_i h
    have h1 := mrg_upd_loc (n := s.n) (h := s.h) (lc := s.lc) (t := p.1 - s.n) p.2 (by omega)
    rw [show s.n + (p.1 - s.n) = p.1 by omega] at h1
    exact h1.symm

theorem app_hp : ∀ (δ : Chg) (s : St), s.inr δ → (s.app δ).hp = app s.hp δ ∧ (s.app δ).n = s.n ∧ (s.app δ).lc.length = s.lc.length
  | [], s, _ => ⟨rfl, rfl, rfl⟩
  | p :: δ, s, h => by
    have h1 := app1_len s p
    have h2 := app1_hp (s := s) (h p (by simp))
    obtain ⟨h3, h4, h5⟩ := app_hp δ (s.app1 p) (fun q hq => by rw [h1.1, h1.2.1]; exact h q (by simp [hq]))
    refine ⟨?_, h4.trans h1.1, h5.trans h1.2.1⟩
    show ((s.app1 p).app δ).hp = app (upd s.hp p.1 p.2) δ
    rw [h3, h2]

theorem fin_hp {s : St} {δ : Chg} (h : s.inr δ) (dst : Option Nat) (d : D) : (s.fin dst d δ).hp = app s.hp δ := by
  obtain ⟨h1, h2, h3⟩ := app_hp δ s h
  rw [← h1]
  show mrg s.n _ _ = mrg (s.app δ).n _ _
  rw [h2]
  rfl

theorem simA_put (hs : SimA s a w M) {w' : World} {M' : Ctx} (hst : Step w M w' M') {d : D} {v : Value} (hr : Rep w' M' d v) {δ : Chg} (hδ : s.inr δ) (hsim : Sim w' M' (app s.hp δ)) (dst : Option Nat) :
    SimA (s.fin dst d δ) (a.put dst v) w' M' where
  defers := by cases dst <;> exact hs.defers
  size := by cases dst <;> simp [Act.put, setD, hs.size, St.fin]
  sim := by rw [fin_hp hδ]; exact hsim
  sl := by
    intro t d' v' hd hv
    cases dst with
    | none => exact (hs.sl t d' v' hd hv).step hst
    | some k =>
      simp only [St.fin, setD, Act.put] at hd hv
      rw [List.getElem?_set] at hd
      rw [Array.getElem?_setIfInBounds] at hv
      by_cases hk : k = t
      · subst hk
        simp only [if_true] at hd hv
        split at hd
        · injection hd with hd
          split at hv
          · injection hv with hv
            subst hd; subst hv; exact hr
          · cases hv
        · cases hd
      · rw [if_neg hk] at hd hv
        exact (hs.sl t d' v' hd hv).step hst

/-- an operation, as the region's law wants it -/
def OpOk (P : Program) (s : St) (o : Oper) (a : Act) (w : World) (M : Ctx) (K : D → Chg → Prop) (Q : Exit → Act → World → Prop) : Prop :=
  o.wp P a w (fun a' w' => ∃ d δ v M', K d δ ∧ s.inr δ ∧ a' = a.put o.dst v ∧ Step w M w' M' ∧ Sim w' M' (app s.hp δ) ∧ Rep w' M' d v) Q

theorem op_of_good {K : D → Chg → Prop} {Q : Exit → Act → World → Prop} (hs : SimA s a w M) (h : Good P s o a w M K) : OpOk P s o a w M K Q := by
  obtain ⟨v, w', d, δ, M', hK, hδ, hout, hst, hsim, hr⟩ := h
  unfold OpOk Oper.wp
  rcases hout with hrun | ⟨hrun, rfl⟩
  · rw [hrun]; exact ⟨d, δ, v, M', hK, hδ, rfl, hst, hsim, hr⟩
  · rw [hrun]; exact ⟨d, δ, undef, M', hK, hδ, rfl, hst, hsim, hr⟩

theorem simA_high (hs : SimA s a w M) : ∀ b, s.n + s.lc.length ≤ b → M b = hole := by
  intro b hb
  have h1 := hs.sim.ver b
  have h2 := hs.sim.con b
  have h5 := hs.sim.opq b
  have h3 : s.hp b = blk0 := by
    have e1 : ¬ b < s.n := by omega
    have e2 : s.lc[b - s.n]? = none := by rw [List.getElem?_eq_none_iff]; omega
    simp [St.hp, mrg, e1, e2]
  rw [h3] at h1 h2 h5
  have h4 : (M b).loc = none := h2
  generalize M b = x at h1 h4 h5
  cases x
  simp only at h1 h4 h5
  subst h1; subst h4; subst h5; rfl

theorem app_high {s : St} {δ : Chg} (h : s.inr δ) : mrg (s.n + s.lc.length) (app s.hp δ) [] = app s.hp δ := by
  obtain ⟨h1, h2, h3⟩ := app_hp δ s h
  rw [← h1]
  have := mrg_nil (s.app δ).n (s.app δ).h (s.app δ).lc
  rw [h2, h3] at this
  show mrg _ (mrg (s.app δ).n _ _) [] = mrg (s.app δ).n _ _
  rw [h2]
  exact this

theorem calls_op {f : FuncId} {ds : List D} {vs : Array Value} {K : D → Chg → Prop} {Q : Exit → Act → World → Prop} (hs : SimA s a w M) (hrun : (execOp a.eval o).run P w = .ok (.enter f vs) w) (hv : Reps w M ds vs)
    (h : ACalls P f ds (s.n + s.lc.length) s.hp (callK s o.dst K)) : OpOk P s o a w M K Q := by
  unfold OpOk Oper.wp
  rw [hrun]
  simp only [Oper.upon]
  have hsim0 : Sim w M (mrg (s.n + s.lc.length) s.hp []) := by rw [St.hp, mrg_nil]; exact hs.sim
  refine (h.2 w M vs hsim0 hv).mono fun e w' ⟨v, d, h', x, M', he, hK, hx, hS, hr, hg⟩ => ?_
  subst he
  rcases hK with ⟨δ, hδ, rfl, rfl, hK⟩ | ⟨t, sz, len, vv, cs, hdst, hlt, hnv, rfl, rfl, rfl, hlow, hK⟩
  · rw [app_high hδ] at hS
    have hst : Step w M w' M' := hg.step (simA_high hs) (fun b hb h0 => by
      have h3 := hS.con b
      rw [← app_high hδ] at h3
      have hbl : mrg (s.n + s.lc.length) (app s.hp δ) [] b = blk0 := by simp [mrg, Nat.not_lt.2 hb]
      rw [hbl] at h3
      exact h3) hs.sim.known
    exact ⟨d, δ, v, M', hK, hδ, rfl, hst, hS, hr⟩
  · -- the callee's array becomes a block of this frame
    let N := s.n + s.lc.length
    have hN : ∀ b, N ≤ b → M b = hole := simA_high hs
    have hvv : 1 ≤ vv := hx ⟨vv, .cells cs⟩ (by simp)
    have hSN : mrg N s.hp [⟨vv, .cells cs⟩] N = ⟨vv, .cells cs⟩ := by simp [mrg]
    have hSlt : ∀ b, b < N → mrg N s.hp [⟨vv, .cells cs⟩] b = s.hp b := fun b hb => mrg_lt hb
    have hShi : ∀ b, N < b → mrg N s.hp [⟨vv, .cells cs⟩] b = blk0 := fun b hb => by
      have h1 : ¬ b < N := by omega
      have h2 : b - N = (b - N - 1) + 1 := by omega
      simp only [mrg, if_neg h1]
      rw [h2]; rfl
    have hpT : s.hp (s.n + t) = s.lc.getD t blk0 := by rw [St.hp, mrg_loc]
    have hbT : s.n + t < N := by show _ < s.n + s.lc.length; omega
    let M2 : Ctx := fun b => if b = s.n + t then ⟨lver s.lc t, (M' N).loc, false⟩ else if b < N then M' b else hole
    have hM2t : M2 (s.n + t) = ⟨lver s.lc t, (M' N).loc, false⟩ := by simp [M2]
    have hM2o : ∀ b, b ≠ s.n + t → b < N → M2 b = M' b := fun b h1 h2 => by simp [M2, h1, h2]
    have hM2h : ∀ b, N ≤ b → M2 b = hole := fun b h1 => by
      have e1 : ¬ b = s.n + t := by omega
      have e2 : ¬ b < N := by omega
      simp [M2, e1, e2]
    have hverT : (M' (s.n + t)).ver = (s.lc.getD t blk0).ver := by rw [hS.ver, hSlt _ hbT, hpT]
    have hverT0 : (M (s.n + t)).ver = (s.lc.getD t blk0).ver := by rw [hs.sim.ver, hpT]
    have hocc : ∀ c, Occ M2 c → Occ M' c := by
      rintro c ⟨b, base, hb⟩
      by_cases e1 : b = s.n + t
      · rw [e1, hM2t] at hb; exact ⟨N, base, hb⟩
      · by_cases e2 : b < N
        · rw [hM2o b e1 e2] at hb; exact ⟨b, base, hb⟩
        · rw [hM2h b (by omega)] at hb; cases hb
    have hrel : ∀ {d : D} {v : Value}, Rep w' M' d v → Low N d → Rep w' M2 d v := fun hr hl => hr.relow (fun b ver hp hle => by
      by_cases e1 : b = s.n + t
      · rw [e1] at hle ⊢
        rw [hM2t]
        rw [hverT] at hle
        refine ⟨Nat.le_succ_of_le hle, fun e => ?_⟩
        simp only [lver] at e
        omega
      · by_cases e2 : b < N
        · rw [hM2o b e1 e2]; exact ⟨hle, fun e => .inr ⟨e, rfl⟩⟩
        · have h0 := hp.resolve_left e2
          subst h0
          rw [hM2h b (by omega)]; exact ⟨Nat.le_refl _, fun _ => .inl rfl⟩) hocc hl
    have hlowH : ∀ b, b < N → ∀ d v, Rep w M d v → Low N d := fun b hb d v hr => hr.low (fun b hb => by rw [hN b hb]; rfl)
    have hliveN : ∀ c, c < w.heap.size → ∀ base, (M' N).loc = some (.mem c base) → Occ M c := fun c hc base hl => hg.occ c hc ⟨N, base, hl⟩
    have hopN : (M' N).opq = false := by rw [hS.opq, hSN]; rfl
    have hopT : (M' (s.n + t)).opq = false := by rw [hS.opq, hSlt _ hbT, hpT]; exact hnv
    have hst : Step w M w' M2 := by
      refine ⟨hg.size, fun b => ?_, fun b e => ?_, fun c hc hl => hg.occ c hc (hocc c hl), fun c hc hl => ?_, hg.imm, hg.shape, hs.sim.known, fun b ho => ?_, hg.same⟩
      · by_cases e1 : b = s.n + t
        · rw [e1, hM2t, hverT0]; exact Nat.le_succ _
        · by_cases e2 : b < N
          · rw [hM2o b e1 e2]; exact hg.ver b e2
          · rw [hN b (by omega)]; exact Nat.zero_le _
      · by_cases e1 : b = s.n + t
        · rw [e1, hM2t, hverT0] at e; simp only [lver] at e; omega
        · by_cases e2 : b < N
          · rw [hM2o b e1 e2] at e ⊢; exact hg.loc b e2 e
          · rw [hM2h b (by omega)]; exact .inl rfl
      · obtain ⟨b, base, hb, ho⟩ := hl
        by_cases e1 : b = s.n + t
        · rw [e1, hM2t] at hb; exact hg.live c hc ⟨N, base, hb, hopN⟩
        · by_cases e2 : b < N
          · rw [hM2o b e1 e2] at hb ho; exact hg.live c hc ⟨b, base, hb, ho⟩
          · rw [hM2h b (by omega)] at hb; cases hb
      · by_cases e1 : b = s.n + t
        · rw [e1, hs.sim.opq, hpT, hnv] at ho; cases ho
        · by_cases e2 : b < N
          · rw [hM2o b e1 e2]; exact hg.opq b e2 ho
          · rw [hN b (by omega)] at ho; cases ho
    have hsim2 : Sim w' M2 (app s.hp [(s.n + t, ⟨lver s.lc t, .cells cs⟩)]) := by
      show Sim w' M2 (upd s.hp (s.n + t) ⟨lver s.lc t, .cells cs⟩)
      refine ⟨fun b => ?_, fun b => ?_, fun b b' c base base' h1 h2 => ?_, fun b => ?_⟩
      · by_cases e1 : b = s.n + t
        · rw [e1, hM2t, upd_same]
        · rw [upd_ne e1]
          by_cases e2 : b < N
          · rw [hM2o b e1 e2, hS.ver, hSlt b e2]
          · rw [hM2h b (by omega), ← hs.sim.ver, hN b (by omega)]
      · by_cases e1 : b = s.n + t
        · rw [e1, hM2t, upd_same]
          have hc := hS.con N
          rw [hSN] at hc
          rcases hc with ⟨a', h1, h2⟩ | ⟨c, base, C, e, h1, h2, h3, h4⟩
          · exact .inl ⟨a', h1, h2⟩
          · exact .inr ⟨c, base, C, e, h1, h2, h3, fun j d hd => let ⟨u, hu, hr⟩ := h4 j d hd; ⟨u, hu, hrel hr (hlow d (List.mem_of_getElem? hd))⟩⟩
        · rw [upd_ne e1]
          by_cases e2 : b < N
          · rw [hM2o b e1 e2]
            have hc := hS.con b
            rw [hSlt b e2] at hc
            have hc0 := hs.sim.con b
            cases hcon : (s.hp b).con with
            | none => rw [hcon] at hc; exact hc
            | veil => rw [hcon] at hc; exact hc
            | cells ds' =>
              rw [hcon] at hc hc0
              rcases hc with ⟨a', h1, h2⟩ | ⟨c, base, C, e, h1, h2, h3, h4⟩
              · exact .inl ⟨a', h1, h2⟩
              · refine .inr ⟨c, base, C, e, h1, h2, h3, fun j d hd => let ⟨u, hu, hr⟩ := h4 j d hd; ⟨u, hu, hrel hr ?_⟩⟩
                rcases hc0 with ⟨_, _, h5⟩ | ⟨_, _, _, _, _, _, _, h6⟩
                · rw [h5] at hd; simp at hd
                · obtain ⟨u0, _, hr0⟩ := h6 j d hd; exact hlowH b e2 d u0 hr0
            | map es =>
              rw [hcon] at hc hc0
              obtain ⟨c, E, cl, h1, h2, h3, h4, h5, h6⟩ := hc
              obtain ⟨_, _, _, _, _, _, _, _, h7⟩ := hc0
              refine ⟨c, E, cl, h1, h2, h3, h4, h5, fun j k d hd => ?_⟩
              obtain ⟨y, hy, hk, hr⟩ := h6 j k d hd
              obtain ⟨y0, _, hk0, hr0⟩ := h7 j k d hd
              exact ⟨y, hy, hrel hk (hlowH b e2 _ _ hk0), hrel hr (hlowH b e2 _ _ hr0)⟩
          · rw [hM2h b (by omega)]
            have hc0 := hs.sim.con b
            rw [hN b (by omega)] at hc0
            have hb0 : s.hp b = blk0 := by
              have e3 : ¬ b < s.n := by omega
              have e4 : s.lc[b - s.n]? = none := by rw [List.getElem?_eq_none_iff]; omega
              simp [St.hp, mrg, e3, e4]
            rw [hb0]; rfl
      · have src : ∀ b c base, (M2 b).loc = some (.mem c base) → ∃ b0, (M' b0).loc = some (.mem c base) ∧ ((b = s.n + t ∧ b0 = N) ∨ (b ≠ s.n + t ∧ b < N ∧ b0 = b)) := fun b c base hb => by
          by_cases e1 : b = s.n + t
          · rw [e1, hM2t] at hb; exact ⟨N, hb, .inl ⟨e1, rfl⟩⟩
          · by_cases e2 : b < N
            · rw [hM2o b e1 e2] at hb; exact ⟨b, hb, .inr ⟨e1, e2, rfl⟩⟩
            · rw [hM2h b (by omega)] at hb; cases hb
        obtain ⟨b0, k0, q0⟩ := src b c base h1
        obtain ⟨b1, k1, q1⟩ := src b' c base' h2
        have := hS.inj b0 b1 c base base' k0 k1
        omega
      · by_cases e1 : b = s.n + t
        · rw [e1, hM2t, upd_same]; rfl
        · rw [upd_ne e1]
          by_cases e2 : b < N
          · rw [hM2o b e1 e2, hS.opq, hSlt b e2]
          · rw [hM2h b (by omega), ← hs.sim.opq, hN b (by omega)]
    refine ⟨_, _, v, M2, hK, inr_new hlt, rfl, hst, hsim2, ?_⟩
    cases hr with
    | ref _ _ _ _ _ _ hle hp h1 =>
      refine .ref _ _ _ _ _ _ (by rw [hM2t]; exact Nat.le_refl _) (fun _ => ?_) h1
      rw [hM2t]
      exact hp (by rw [hS.ver, hSN])

theorem run_callFunc {f : FuncId} {vs : Array Value} (hf : goodFn P f = true) : (callFunc f vs).run P w = .ok (.enter f vs) w := by
  unfold goodFn at hf
  split at hf
  · rename_i fn hfn
    simp only [Bool.and_eq_true, Bool.not_eq_true', beq_eq_false_iff_ne, ne_eq] at hf
    have hb : ¬ fn.body = none := by intro hb; rw [hb] at hf; simp at hf
    simp [callFunc, hfn, hf.2, hb]
  · cases hf

theorem reps_args (hs : SimA s a w M) (args : Array Operand) : Reps w M ((args.toList.map opd).map s.val) (args.map a.eval) := by
  refine ⟨by simp, fun i d v hd hv => ?_⟩
  simp only [List.map_map, List.getElem?_map, Array.getElem?_toList, Array.getElem?_map, Option.map_eq_some_iff] at hd hv
  obtain ⟨x, hx, rfl⟩ := hd
  obtain ⟨y, hy, rfl⟩ := hv
  rw [hx] at hy; injection hy with hy; subst hy
  exact val_rep hs x

theorem reps_append {ds es : List D} {us vs : Array Value} (h1 : Reps w M ds us) (h2 : Reps w M es vs) : Reps w M (ds ++ es) (us ++ vs) := by
  refine ⟨by simp [h1.size, h2.size], fun i d v hd hv => ?_⟩
  by_cases hi : i < ds.length
  · rw [List.getElem?_append_left hi] at hd
    rw [Array.getElem?_append_left (by rw [h1.size]; exact hi)] at hv
    exact h1.rep i d v hd hv
  · rw [List.getElem?_append_right (by omega)] at hd
    rw [Array.getElem?_append_right (by rw [h1.size]; omega), h1.size] at hv
    exact h2.rep _ d v hd hv

theorem compBin_call {op : BinOp} {t : TypeId} {x y : Operand} : isCall (compBin P op t x y) = false := by
  unfold compBin
  repeat' split
  all_goals rfl

theorem comp_call {op : Op} (h : isCall (comp P op) = true) : ∃ c v, op = .call c ∧ c.callee = .value v ∧
    ((∃ f, v = .func f ∧ comp P op = .call f (c.args.toList.map opd)) ∨ comp P op = .callv (opd v) (c.args.toList.map opd)) := by
  cases op with
  | call c =>
    cases hc : c.callee with
    | value v =>
      refine ⟨c, v, rfl, hc, ?_⟩
      cases v with
      | func f => exact .inl ⟨f, rfl, by simp only [comp, hc]⟩
      | _ => exact .inr (by simp only [comp, hc])
    | invoke r m => simp only [comp, hc] at h; cases h
    | builtin b =>
      simp only [comp, hc] at h
      exfalso
      cases b <;> simp only at h <;> (repeat' (split at h)) <;> cases h
  | binOp op t x y ty => simp only [comp] at h; rw [compBin_call] at h; cases h
  | makeFunc fn first caps =>
    exfalso
    cases fn <;> simp only [comp] at h <;> (repeat' (split at h)) <;> cases h
  | _ => exfalso; simp only [comp] at h; (repeat' (split at h)) <;> cases h

theorem stepO_sound {ops : Array Oper} {K : D → Chg → Prop} {Q : Exit → Act → World → Prop} (hs : SimA s a w M) (h : stepO P (aoper P ops o) s K) : OpOk P s o a w M K Q := by
  unfold stepO at h
  split at h
  · rename_i f args hop
    have hop' : comp P o.op = .call f args := hop
    obtain ⟨c, v, ho, hc, hv⟩ := comp_call (P := P) (op := o.op) (by rw [hop']; rfl)
    rw [hop'] at hv
    rcases hv with ⟨g, hvg, hv⟩ | hv
    · injection hv with h1 h2
      subst h1; subst h2
      refine calls_op hs (vs := c.args.map a.eval) ?_ (reps_args hs c.args) h
      have hcf := run_callFunc (P := P) (w := w) (vs := c.args.map a.eval) h.1
      simp [execOp, ho, resolve, hc, hvg, Act.eval, Deferred.ofValue, invoke]
      simpa using hcf
    · cases hv
  · rename_i x args hop
    have hop' : comp P o.op = .callv x args := hop
    obtain ⟨c, v, ho, hc, hv⟩ := comp_call (P := P) (op := o.op) (by rw [hop']; rfl)
    rw [hop'] at hv
    rcases hv with ⟨g, hvg, hv⟩ | hv
    · cases hv
    · injection hv with h1 h2
      subst h1; subst h2
      have hx := val_rep hs v
      split at h
      · rename_i f caps hxv
        rw [hxv] at hx
        generalize hve : a.eval v = u at hx
        cases hx with
        | fn _ _ vs hl hr =>
          refine calls_op hs (vs := c.args.map a.eval ++ vs) ?_ (reps_append (reps_args hs c.args) ⟨hl, hr⟩) h
          have hcf := run_callFunc (P := P) (w := w) (vs := c.args.map a.eval ++ vs) h.1
          simp [execOp, ho, resolve, hc, hve, Deferred.ofValue, invoke]
          simpa using hcf
      · exact h.elim
  · exact op_of_good hs (run_sound hs h)

/-- the operations, one after the other -/
theorem aops_sound {ops : Array Oper} {K : St → Prop} {Q : Exit → Act → World → Prop} : ∀ (l : List Oper) (s : St) (a : Act) (w : World) (M : Ctx) (n0 : Nat) (w0 : World) (M0 : Ctx), s.n = n0 → SimA s a w M → Grows n0 w0 M0 w M →
    aops P (l.map (aoper P ops)) s K → (∀ s' a' w' M', s'.n = n0 → K s' → SimA s' a' w' M' → Grows n0 w0 M0 w' M' → Q .normal a' w') → wpList P ops Q l a w
  | [], s, a, w, M, n0, w0, M0, hn, hs, hg, h, hQ => hQ s a w M hn h hs hg
  | o :: l, s, a, w, M, n0, w0, M0, hn, hs, hg, h, hQ => by
    subst hn
    have next : ∀ (hw : Region.wanted o (yielded ops a.tmps) = true), stepO P (aoper P ops o) s (fun d δ => aops P (l.map (aoper P ops)) (s.fin o.dst d δ) K) → wpList P ops Q (o :: l) a w := by
      intro hw hstep
      unfold wpList
      rw [if_pos hw]
      left
      refine Oper.wp_mono (fun a' w' ⟨d, δ, v, M', hK, hδ, ha, hst, hsim, hr⟩ => ?_) (stepO_sound (ops := ops) (Q := Q) hs hstep)
      subst ha
      exact aops_sound l (s.fin o.dst d δ) _ w' M' s.n w0 M0 rfl (simA_put hs hst hr hδ hsim o.dst) (hg.trans (hst.grows _)) hK hQ
    simp only [List.map_cons, aops] at h
    split at h
    · rename_i hgd
      refine next ?_ h
      have : o.guard = none := by
        simp only [aoper, aguard] at hgd
        split at hgd
        · assumption
        · split at hgd <;> cases hgd
      simp [Region.wanted, this]
    · rename_i t want hgd
      obtain ⟨j, hgo, hj⟩ : ∃ j, o.guard = some (j, want) ∧ (ops[j]?).bind (·.dst) = some t := by
        simp only [aoper, aguard] at hgd
        split at hgd
        · cases hgd
        · rename_i j want' hgo
          split at hgd
          · rename_i t' hj
            injection hgd with h1 h2
            subst h1; subst h2
            exact ⟨j, hgo, hj⟩
          · cases hgd
      split at h
      · rename_i b hb
        rw [condG_iff] at h
        have hy : yielded ops a.tmps j = some b := by
          have ht : t < s.sl.length := by
            refine Nat.lt_of_not_le fun hle => ?_
            simp [nth, List.getD, List.getElem?_eq_none hle] at hb
          have h1 := nth_get ht
          rw [hb] at h1
          have ht2 : t < a.tmps.size := by rw [hs.size]; exact ht
          have h2 := hs.sl t _ a.tmps[t] h1 (by simp [ht2])
          generalize hv : a.tmps[t] = v at h2
          cases h2 with
          | bool _ =>
            unfold yielded
            rw [hj]
            simp [ht2, hv]
        by_cases hbw : b = want
        · refine next ?_ (h.1 hbw)
          simp [Region.wanted, hgo, hy, hbw]
        · have hnw : Region.wanted o (yielded ops a.tmps) = false := by
            simp [Region.wanted, hgo, hy, hbw]
          unfold wpList
          rw [hnw]
          simp only [Bool.false_eq_true, if_false]
          obtain ⟨h1, h2⟩ := step_same (w' := w) hs.sim rfl
          exact aops_sound l (s.fin o.dst (.tup []) []) (a.put o.dst undef) w M s.n w0 M0 rfl (simA_put hs h1 (.tup [] #[] rfl fun i c v h => by simp at h) (δ := []) (by simp [St.inr]) hs.sim o.dst) hg (h.2 hbw) hQ
      · rename_i hb
        have hy : yielded ops a.tmps j = none := by
          have ht : t < s.sl.length := by
            refine Nat.lt_of_not_le fun hle => ?_
            simp [nth, List.getD, List.getElem?_eq_none hle] at hb
          have h1 := nth_get ht
          rw [hb] at h1
          have ht2 : t < a.tmps.size := by rw [hs.size]; exact ht
          have h2 := hs.sl t _ a.tmps[t] h1 (by simp [ht2])
          generalize hv : a.tmps[t] = v at h2
          cases h2 with
          | tup _ vs _ _ =>
            unfold yielded
            rw [hj]
            simp [ht2, hv]
        have hnw : Region.wanted o (yielded ops a.tmps) = false := by
          simp [Region.wanted, hgo, hy]
        unfold wpList
        rw [hnw]
        simp only [Bool.false_eq_true, if_false]
        obtain ⟨h1, h2⟩ := step_same (w' := w) hs.sim rfl
        exact aops_sound l (s.fin o.dst (.tup []) []) (a.put o.dst undef) w M s.n w0 M0 rfl (simA_put hs h1 (.tup [] #[] rfl fun i c v h => by simp at h) (δ := []) (by simp [St.inr]) hs.sim o.dst) hg h hQ
      · exact h.elim
    · exact h.elim

theorem awp_region {id : Nat} {ops : Array Oper} {Q : Exit → St → Prop} (h : aops P (ops.toList.map (aoper P ops)) s (Q .normal)) : Awp P (.region id ops false) Q s := by
  intro a w M hs
  exact wp_region_list (aops_sound ops.toList s a w M s.n w M rfl hs (.refl ..) h fun s' a' w' M' hn hK hs' hg => ⟨s', M', hn, hK, hs', hg⟩)

theorem awp_cond {c : Operand} {x y : Code} {Q : Exit → St → Prop} (h : match s.val (opd c) with
    | .bool b => (b = true → Awp P x Q s) ∧ (b = false → Awp P y Q s)
    | .abool => Awp P x Q s ∧ Awp P y Q s
    | _ => False) : Awp P (.cond c x y) Q s := by
  intro a w M hs
  have hc := val_rep hs c
  split at h
  · rename_i b hv
    rw [hv] at hc
    generalize hve : a.eval c = u at hc
    cases hc with
    | bool _ => exact wp_cond_split hve (fun hb => h.1 hb a w M hs) (fun hb => h.2 hb a w M hs)
  · rename_i hv
    rw [hv] at hc
    generalize hve : a.eval c = u at hc
    cases hc with
    | abool b => exact wp_cond_split hve (fun _ => h.1 a w M hs) (fun _ => h.2 a w M hs)
  · exact h.elim

end Abs
end Go.Proofs.Ytfojedaccfenfab
