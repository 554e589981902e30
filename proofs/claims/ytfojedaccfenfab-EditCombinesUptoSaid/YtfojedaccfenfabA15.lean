/- A function's entry and return. -/
import Derived.Test.YtfojedaccfenfabA14
namespace Go.Proofs.Ytfojedaccfenfab
namespace Abs
set_option linter.unusedVariables false

inductive AR where
  | tmp (t : Nat)
  | cell (t : Nat) (agg : Bool) (k : Nat)
  | bad

def compR (P : Program) : ResultVar → AR
  | .tmp t => .tmp t
  | .cell a t => match P.info? t, P.underlying t with
    | some i, some d => if i.size == 0 then .bad else .cell a (isAggD d) i.size
    | _, _ => .bad

def resVal (s : St) (r : AR) (K : D → Prop) : Prop :=
  match r with
  | .tmp t => K (nth s.sl t)
  | .cell t agg k => match nth s.sl t with
    | .adr cs => ld agg k cs 0 K
    | .ptr b ver off => s.at b ver fun cs => ld agg k cs off K
    | _ => False
  | .bad => False

def resAll (s : St) : List AR → (List D → Prop) → Prop
  | [], K => K []
  | r :: rs, K => resVal s r fun d => resAll s rs fun ds => K (d :: ds)

def tupD : List D → D
  | [d] => d
  | ds => .tup ds

/-- what a function hands back: its result, told as little as wanted, and the blocks that come with it -/
def Fin (s : St) (R : D → Heap → List Blk → Prop) (ds : List D) : Prop :=
  LowH s.n s.h ∧ ∃ (g : List Src1) (x : List Blk) (d : D), WxOk ⟨s.n, s.lc, g, x⟩ ∧ Wk ⟨s.n, s.lc, g, x⟩ (tupD ds) d ∧ (∀ k ∈ x, 1 ≤ k.ver) ∧ R d s.h x

def FnQ (rs : List AR) (R : D → Heap → List Blk → Prop) : Exit → St → Prop
  | .normal, s => resAll s rs (Fin s R)
  | .ret, s => resAll s rs (Fin s R)
  | _, _ => False

variable {P : Program} {s : St} {a : Act} {w : World} {M : Ctx}

def rv (tmps : Array Value) : ResultVar → Sem Value
  | .tmp t => pure (tmps.getD t undef)
  | .cell a t => do loadVar t (← asAddr (tmps.getD a undef))

theorem results_eq (fn : Func) (tmps : Array Value) : results fn tmps = (do let vs ← fn.results.mapM (rv tmps); pure (if h : vs.size = 1 then vs[0] else .tuple vs)) := by
  unfold results
  have : (fun r : ResultVar => (match r with | .tmp t => pure (tmps.getD t undef) | .cell a t => do loadVar t (← asAddr (tmps.getD a undef)) : Sem Value)) = rv tmps := by
    funext r; cases r <;> rfl
  rw [← this]
  rfl

theorem resVal_sound {r : ResultVar} (hs : SimA s a w M) {K : D → Prop} (h : resVal s (compR P r) K) :
    ∃ v d, (rv a.tmps r).run P w = .ok v w ∧ Rep w M d v ∧ K d := by
  cases r with
  | tmp t => exact ⟨_, _, rfl, val_rep hs (.tmp t), h⟩
  | cell b t =>
    simp only [compR] at h
    split at h
    · rename_i i td hi hd
      split at h
      · exact h.elim
      · rename_i h0
        simp only [beq_iff_eq] at h0
        have hx : Rep w M (nth s.sl b) (a.tmps.getD b undef) := val_rep hs (.tmp b)
        simp only [resVal] at h
        split at h
        · rename_i cs hv
          rw [hv] at hx
          generalize hve : a.tmps.getD b undef = v at hx
          cases hx with
          | adr cs ad u hsp hb hlive hcell hr =>
            obtain ⟨v, d, hrun, hrep, hK⟩ := load_rep (w := w) (M := M) hi hd (ad := ad) (fun j e he => ⟨u j, hcell j e he, hr j e he⟩) h
            have hz : ad.add 0 = ad := by simp [Addr.add]
            rw [hz] at hrun
            exact ⟨v, d, by rw [rv, hve, Sem.run_bind, asAddr, Sem.run_pure, Result.andThen_ok, hrun], hrep, hK⟩
        · rename_i b' ver off hv
          rw [hv] at hx
          obtain ⟨cs, hb, hQ⟩ := at_spec h
          have hne : cs ≠ [] := by
            rintro rfl
            unfold ld at hQ
            split at hQ
            · simp at hQ; omega
            · simp at hQ
          obtain ⟨hver, c, base, C, e, hl, hc, hsz, hrep⟩ := at_mem hs hb hne
          have hve := rep_ptr hx hver hl
          obtain ⟨v, d, hrun, hrep', hK⟩ := load_rep (w := w) (M := M) hi hd (ad := ⟨c, base, none⟩) (fun j e he => by
            obtain ⟨v, h1, h2⟩ := hrep j e he
            exact ⟨v, cell_of hc h1, h2⟩) hQ
          rw [Addr.lit_add] at hrun
          exact ⟨v, d, by rw [rv, hve, Sem.run_bind, asAddr, Sem.run_pure, Result.andThen_ok, hrun], hrep', hK⟩
        · exact h.elim
    · exact h.elim

theorem resAll_sound (hs : SimA s a w M) : ∀ (rs : List ResultVar) (K : List D → Prop), resAll s (rs.map (compR P)) K →
    ∃ (vs : List Value) (ds : List D), (rs.mapM (rv a.tmps)).run P w = .ok vs w ∧ Two (Rep w M) ds vs ∧ K ds
  | [], K, h => ⟨[], [], by simp, .nil, h⟩
  | r :: rs, K, h => by
    obtain ⟨v, d, hrun, hr, h'⟩ := resVal_sound (P := P) hs h
    obtain ⟨vs, ds, hrun2, h2, hK⟩ := resAll_sound hs rs _ h'
    exact ⟨v :: vs, d :: ds, by rw [List.mapM_cons]; simp only [Sem.run_bind, hrun, Result.andThen_ok, hrun2, Sem.run_pure], .cons hr h2, hK⟩

theorem two_tup {ds : List D} {vs : List Value} (h : Two (Rep w M) ds vs) : Rep w M (tupD ds) (if h : vs.toArray.size = 1 then vs.toArray[0] else .tuple vs.toArray) := by
  have hlen : ∀ {ds : List D} {vs : List Value}, Two (Rep w M) ds vs → vs.length = ds.length ∧ ∀ (i : Nat) (d : D) (v : Value), ds[i]? = some d → vs[i]? = some v → Rep w M d v := by
    intro ds vs h
    induction h with
    | nil => exact ⟨rfl, by simp⟩
    | cons h _ ih =>
      refine ⟨by simp [ih.1], fun i d v hd hv => ?_⟩
      cases i with
      | zero => simp at hd hv; subst hd; subst hv; exact h
      | succ i => exact ih.2 i d v (by simpa using hd) (by simpa using hv)
  obtain ⟨h1, h2⟩ := hlen h
  by_cases hone : vs.length = 1
  · cases h with
    | nil => simp at hone
    | cons hr ht =>
      cases ht with
      | nil => simpa [tupD] using hr
      | cons _ _ => simp at hone
  · have h3 : ¬ (vs.toArray.size = 1) := by simpa using hone
    rw [dif_neg h3]
    have h4 : tupD ds = .tup ds := by
      cases ds with
      | nil => rfl
      | cons d ds => cases ds with
        | nil => simp at h1; omega
        | cons e ds => rfl
    rw [h4]
    exact .tup _ _ (by simpa using h1) fun i d v hd hv => h2 i d v hd (by simpa using hv)

/-- what a heap holds names no block beyond it -/
theorem low_of_sim {n : Nat} {h : Heap} {w : World} {M : Ctx} (hsim : Sim w M (mrg n h [])) : LowH n h := by
  have hhigh : ∀ b, n ≤ b → (M b).ver = 0 := fun b hb => by
    rw [hsim.ver]; simp [mrg, Nat.not_lt.2 hb, blk0]
  intro b hb
  have hc := hsim.con b
  rw [mrg_lt hb] at hc
  cases hcon : (h b).con with
  | none => trivial
  | veil => trivial
  | cells cs =>
    rw [hcon] at hc
    intro d hd
    obtain ⟨j, hj⟩ := List.mem_iff_getElem?.1 hd
    rcases hc with ⟨_, _, h2⟩ | ⟨_, _, _, _, _, _, _, h4⟩
    · rw [h2] at hd; cases hd
    · obtain ⟨v, _, hr⟩ := h4 j d hj; exact hr.low hhigh
  | map es =>
    rw [hcon] at hc
    intro e he
    obtain ⟨j, hj⟩ := List.mem_iff_getElem?.1 he
    obtain ⟨_, _, _, _, _, _, _, _, h6⟩ := hc
    obtain ⟨x, _, hk, hr⟩ := h6 j e.1 e.2 hj
    exact ⟨hk.low hhigh, hr.low hhigh⟩

/-- a function's contract, out of its body's run -/
theorem acalls_of_awp {f : FuncId} {fn : Func} {c : Code} {ds : List D} {n : Nat} {h : Heap} {R : D → Heap → List Blk → Prop} (hf : P.funcs[f]? = some fn) (hb : fn.body = some c) (hname : (fn.name == "runtime.NumGoroutine") = false)
    (hbody : LowH n h → Awp P c (FnQ (fn.results.toList.map (compR P)) R) ⟨n, ds ++ List.replicate (fn.ntmps - ds.length) .top, h, List.replicate fn.ntmps blk0⟩) : ACalls P f ds n h R := by
  refine ⟨by simp [goodFn, hf, hb, hname], fun w M vs hsim hreps => ?_⟩
  have hhigh : ∀ b, n ≤ b → (M b).ver = 0 := fun b hb => by
    rw [hsim.ver]; simp [mrg, Nat.not_lt.2 hb, blk0]
  have hlow : LowH n h := low_of_sim hsim
  have hmrg : mrg n h (List.replicate fn.ntmps blk0) = mrg n h [] := by
    funext b
    unfold mrg
    split
    · rfl
    · simp only [List.getD, List.getElem?_replicate]
      split <;> rfl
  refine calls_of_wp hf hb (wp_mono (hbody hlow _ w M ⟨rfl, ?_, ?_, ?_⟩) ?_)
  · simp [hreps.size]
  · intro t d v hd hv
    simp only at hd hv
    by_cases ht : t < ds.length
    · rw [List.getElem?_append_left ht] at hd
      rw [Array.getElem?_append_left (by rw [hreps.size]; exact ht)] at hv
      exact hreps.rep t d v hd hv
    · rw [List.getElem?_append_right (by omega), List.getElem?_replicate] at hd
      split at hd
      · injection hd with hd; subst hd; exact .top _
      · cases hd
  · show Sim w M (mrg n h (List.replicate fn.ntmps blk0))
    rw [hmrg]; exact hsim
  · intro e a' w' ⟨s', M', hn, hq, hs', hg⟩
    have hfin : resAll s' (fn.results.toList.map (compR P)) (Fin s' R) → a'.defers = [] ∧ ∃ v, (results fn a'.tmps).run P w' = .ok v w' ∧
        ∃ v2 d h' x M', Ending.returned v = .returned v2 ∧ R d h' x ∧ (∀ k ∈ x, 1 ≤ k.ver) ∧ Sim w' M' (mrg n h' x) ∧ Rep w' M' d v2 ∧ Grows n w M w' M' := by
      intro hres
      obtain ⟨vs, ds', hrun, htwo, hfin⟩ := resAll_sound (P := P) hs' fn.results.toList _ hres
      refine ⟨hs'.defers, (if h : vs.toArray.size = 1 then vs.toArray[0] else .tuple vs.toArray), ?_, ?_⟩
      · rw [results_eq, Array.mapM_eq_mapM_toList]
        simp only [Sem.run_bind, Sem.run_map, hrun, Result.andThen_ok, Sem.run_pure]
      · obtain ⟨hlow', g, x, d, hX, hwk, hx, hR⟩ := hfin
        have hn' : s'.n = n := hn
        refine ⟨_, d, s'.h, x, wkM ⟨s'.n, s'.lc, g, x⟩ M', rfl, hR, hx, ?_, wk_rep hX hs'.sim hwk (two_tup htwo), ?_⟩
        · have := wk_sim hX hlow' hs'.sim
          rw [← hn']; exact this
        · rw [← hn']
          have hg1 : Grows s'.n w M w' M' := by rw [hn']; exact hg
          exact hg1.trans (wk_grows (X := ⟨s'.n, s'.lc, g, x⟩) hX hs'.sim)
    cases e with
    | normal => exact hfin hq
    | ret => exact hfin hq
    | exit id => exact hq.elim
    | goto l => exact hq.elim
    | panic ch => exact hq.elim
    | outgrown => exact hq.elim

end Abs
end Go.Proofs.Ytfojedaccfenfab
