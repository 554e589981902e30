/- What the operations' abstract run says holds of the model's run: the tools. -/
import Derived.Test.YtfojedaccfenfabA3
namespace Go.Proofs.Ytfojedaccfenfab
namespace Abs

theorem litC_rep (w : World) (M : Ctx) (v : Value) : Rep w M (litC v) v := by
  unfold litC
  split
  · exact .bool _
  · exact .int _ _
  · exact .str _
  · exact .nils
  · exact .nilp
  · exact .nilmap
  · exact .nilfn
  · exact .nilif
  · exact .top _

theorem litD_rep (w : World) (M : Ctx) (v : Value) : Rep w M (litD v) v := by
  unfold litD
  split
  · rename_i cs
    refine .agg _ _ (by simp) fun i c v hc hv => ?_
    simp only [List.getElem?_map, Array.getElem?_toList, Option.map_eq_some_iff] at hc
    obtain ⟨u, hu, rfl⟩ := hc
    rw [hu] at hv; injection hv with hv; subst hv
    exact litC_rep w M u
  · exact litC_rep w M _

theorem val_rep {s : St} {a : Act} {w : World} {M : Ctx} (hs : SimA s a w M) (x : Operand) : Rep w M (s.val (opd x)) (a.eval x) := by
  cases x with
  | tmp t =>
    simp only [opd, St.val, Act.eval, nth]
    by_cases ht : t < s.sl.length
    · have h1 : s.sl[t]? = some s.sl[t] := by simp [ht]
      have h2 : a.tmps[t]? = some (a.tmps[t]'(by rw [hs.size]; exact ht)) := by simp [hs.size, ht]
      simp only [List.getD, h1, Array.getD_eq_getD_getElem?, h2, Option.getD_some]
      exact hs.sl t _ _ h1 h2
    · simp only [List.getD, List.getElem?_eq_none (Nat.le_of_not_lt ht), Option.getD_none]
      exact .top _
  | const v => exact litD_rep w M v
  | global g => exact .top _
  | func f => exact .fn f [] #[] rfl (by simp)

theorem nth_of {l : List D} {k : Nat} {d : D} (h : l[k]? = some d) : nth l k = d := by simp [nth, List.getD, h]
theorem nth_get {l : List D} {k : Nat} (h : k < l.length) : l[k]? = some (nth l k) := by simp [nth, List.getD, h]

/-- the cells of a value that is known as a whole -/
theorem rep_solid {w : World} {M : Ctx} {d : D} {v : Value} (h : Rep w M d v) (hd : d.solid = true) :
    v.cells.size = d.cells.length ∧ ∀ (j : Nat) (c : D) (u : Value), d.cells[j]? = some c → v.cells[j]? = some u → Rep w M c u := by
  have one : ∀ {d : D} {v : Value}, d.cells = [d] → v.cells = #[v] → Rep w M d v → v.cells.size = d.cells.length ∧ ∀ (j : Nat) (c : D) (u : Value), d.cells[j]? = some c → v.cells[j]? = some u → Rep w M c u := by
    intro d v h1 h2 h
    rw [h1, h2]
    refine ⟨rfl, fun j c u hc hu => ?_⟩
    cases j with
    | zero => simp at hc hu; subst hc; subst hu; exact h
    | succ j => simp at hc
  cases h with
  | top v => simp [D.solid] at hd
  | tup cs vs hl h => simp [D.solid] at hd
  | agg cs vs hl h => exact ⟨hl, h⟩
  | ref sz b ver off len v hv h h1 =>
    obtain ⟨x, y, z, rfl⟩ := h1
    exact one rfl rfl (.ref sz b ver off len _ hv h ⟨x, y, z, rfl⟩)
  | ptr b ver off v hv h h1 =>
    obtain ⟨x, rfl⟩ := h1
    exact one rfl rfl (.ptr b ver off _ hv h ⟨x, rfl⟩)
  | map b ver v hv h h1 =>
    obtain ⟨x, rfl⟩ := h1
    exact one rfl rfl (.map b ver _ hv h ⟨x, rfl⟩)
  | abool b => exact one rfl rfl (.abool b)
  | bool b => exact one rfl rfl (.bool b)
  | int k i => exact one rfl rfl (.int k i)
  | str s => exact one rfl rfl (.str s)
  | nils => exact one rfl rfl .nils
  | emp a => exact one rfl rfl (.emp a)
  | lst0 a c => exact one rfl rfl (.lst0 a c)
  | lst l ad c sz u hc hsp hb hlive hsz hcell hr => exact one rfl rfl (.lst l ad c sz u hc hsp hb hlive hsz hcell hr)
  | adr cs ad u hsp hb hlive hcell hr => exact one rfl rfl (.adr cs ad u hsp hb hlive hcell hr)
  | nilp => exact one rfl rfl .nilp
  | fn f cs vs hl h => exact one rfl rfl (.fn f cs vs hl h)
  | nilfn => exact one rfl rfl .nilfn
  | nilmap => exact one rfl rfl .nilmap
  | iface t d v h => exact one rfl rfl (.iface t d v h)
  | nilif => exact one rfl rfl .nilif

theorem rep_one {w : World} {M : Ctx} {d : D} {v : Value} (h : Rep w M d v) (hd : d.one = true) : v.oneCell' = true := by
  cases h with
  | top v => simp [D.one] at hd
  | tup cs vs hl h => simp [D.one] at hd
  | agg cs vs hl h => simp [D.one] at hd
  | ref sz b ver off len v hv h h1 => obtain ⟨x, y, z, rfl⟩ := h1; rfl
  | ptr b ver off v hv h h1 => obtain ⟨x, rfl⟩ := h1; rfl
  | map b ver v hv h h1 => obtain ⟨x, rfl⟩ := h1; rfl
  | _ => rfl

theorem one_solid {d : D} (h : d.one = true) : d.solid = true := by cases d <;> simp_all [D.one, D.solid]

/-! ### changes of the world -/
def updM (M : Ctx) (b : Nat) (x : Ent) : Ctx := fun b' => if b' = b then x else M b'

theorem sim_new {w w' : World} {M : Ctx} {H : Heap} (hs : Sim w M H) (b : Nat) (hnv : (H b).con.isOpq = false) (C : Array Value) (e : TypeId) (hw : w'.heap = w.heap.push (.cells C e (0, 0)))
    (cs : List D) (hl : cs.length ≤ C.size) (hr : ∀ (j : Nat) (d : D), cs[j]? = some d → ∃ v, C[j]? = some v ∧ Rep w M d v) (hsame : Same w w' := by exact ⟨rfl, rfl, rfl⟩) :
    Step w M w' (updM M b ⟨(H b).ver + 1, some (.mem w.heap.size 0), false⟩) ∧ Sim w' (updM M b ⟨(H b).ver + 1, some (.mem w.heap.size 0), false⟩) (upd H b ⟨(H b).ver + 1, .cells cs⟩) := by
  have hold : ∀ c, c < w.heap.size → w'.heap[c]? = w.heap[c]? := fun c hc => by rw [hw, Array.getElem?_push_lt hc]; simp [hc]
  have hnew : w'.heap[w.heap.size]? = some (.cells C e (0, 0)) := by rw [hw]; simp
  have hstep : Step w M w' (updM M b ⟨(H b).ver + 1, some (.mem w.heap.size 0), false⟩) := by
    refine ⟨by rw [hw]; simp, fun b' => ?_, fun b' he => ?_, fun c hc hlv => ?_, fun c hc hlv => ?_, fun c hc _ => hold c hc, fun c hc C' e' fr' h => ⟨C', e', fr', (hold c hc).symm.trans h, rfl⟩, hs.known, fun b' ho => ?_, hsame⟩
    · unfold updM; split
      · rename_i h; subst h; rw [hs.ver]; exact Nat.le_succ _
      · exact Nat.le_refl _
    · unfold updM at he ⊢; split
      · rename_i h; subst h; simp [hs.ver] at he
      · exact .inr rfl
    · obtain ⟨b', base, h⟩ := hlv
      unfold updM at h; split at h
      · injection h with h; injection h with h; omega
      · exact ⟨b', base, h⟩
    · obtain ⟨b', base, h, h2⟩ := hlv
      unfold updM at h h2; split at h
      · injection h with h; injection h with h; omega
      · rename_i hne; rw [if_neg hne] at h2; exact ⟨b', base, h, h2⟩
    · unfold updM; split
      · rename_i h; subst h; rw [hs.opq, hnv] at ho; cases ho
      · rfl
  refine ⟨hstep, fun b' => ?_, fun b' => ?_, fun b1 b2 c base base' h1 h2 => ?_, fun b' => ?_⟩
  rotate_left 3
  · unfold updM upd; split
    · rfl
    · exact hs.opq b'
  · unfold updM upd; split
    · rfl
    · exact hs.ver b'
  · by_cases h : b' = b
    · subst h
      simp only [updM, upd, if_true]
      refine .inr ⟨_, 0, C, e, rfl, hnew, by omega, fun j d hd => ?_⟩
      obtain ⟨v, hv, hrep⟩ := hr j d hd
      exact ⟨v, by simpa using hv, hrep.step hstep⟩
    · simp only [updM, upd, h, if_false]
      exact (hs.con b').step hstep fun c base hlc => hold c (hs.known b' c base hlc)
  · unfold updM at h1 h2
    split at h1 <;> split at h2
    · omega
    · injection h1 with h1; injection h1 with h1; have := hs.known b2 c base' h2; omega
    · injection h2 with h2; injection h2 with h2; have := hs.known b1 c base h1; omega
    · exact hs.inj b1 b2 c base base' h1 h2

theorem sim_put {w w' : World} {M : Ctx} {H : Heap} (hs : Sim w M H) (b c base : Nat) (hnv : (H b).con.isOpq = false) (C C' : Array Value) (e : TypeId) (hloc : (M b).loc = some (.mem c base))
    (hc : w.heap[c]? = some (.cells C e (0, 0))) (hsz : w'.heap.size = w.heap.size) (hother : ∀ k, k ≠ c → w'.heap[k]? = w.heap[k]?) (hc' : w'.heap[c]? = some (.cells C' e (0, 0)))
    (hC : C'.size = C.size) (ver' base' : Nat) (cs : List D) (hver : (ver' = (H b).ver ∧ base' = base) ∨ (H b).ver < ver') (hl : base' + cs.length ≤ C.size)
    (hr : ∀ (j : Nat) (d : D), cs[j]? = some d → ∃ v, C'[base' + j]? = some v ∧ Rep w M d v) (hsame : Same w w' := by exact ⟨rfl, rfl, rfl⟩) :
    Step w M w' (updM M b ⟨ver', some (.mem c base'), false⟩) ∧ Sim w' (updM M b ⟨ver', some (.mem c base'), false⟩) (upd H b ⟨ver', .cells cs⟩) := by
  have hlive : Live M c := ⟨b, base, hloc, by rw [hs.opq]; exact hnv⟩
  have hstep : Step w M w' (updM M b ⟨ver', some (.mem c base'), false⟩) := by
    refine ⟨Nat.le_of_eq hsz.symm, fun b' => ?_, fun b' he => ?_, fun k hk hlv => ?_, fun k hk hlv => ?_, fun k hk hn => hother k (fun h => hn (h ▸ hlive)), fun k hk C1 e1 fr1 h => ?_, hs.known, fun b' ho => ?_, hsame⟩
    · unfold updM; split
      · rename_i h; subst h; rw [hs.ver]; show _ ≤ ver'; omega
      · exact Nat.le_refl _
    · unfold updM at he ⊢; split
      · rename_i h; subst h
        simp only [if_true, hs.ver] at he
        rcases hver with ⟨_, h2⟩ | h2
        · rw [h2]; exact .inr hloc.symm
        · omega
      · exact .inr rfl
    · obtain ⟨b', base1, h⟩ := hlv
      unfold updM at h; split at h
      · injection h with h; injection h with h; subst h; exact hlive.occ
      · exact ⟨b', base1, h⟩
    · obtain ⟨b', base1, h, h2⟩ := hlv
      unfold updM at h h2; split at h
      · injection h with h; injection h with h; subst h; exact hlive
      · rename_i hne; rw [if_neg hne] at h2; exact ⟨b', base1, h, h2⟩
    · by_cases hkc : k = c
      · subst hkc
        rw [hc'] at h; injection h with h; injection h with h1 h2 h3
        exact ⟨C, e, _, hc, by rw [← h1, hC]⟩
      · rw [hother k hkc] at h; exact ⟨C1, e1, fr1, h, rfl⟩
    · unfold updM; split
      · rename_i h; subst h; rw [hs.opq, hnv] at ho; cases ho
      · rfl
  refine ⟨hstep, fun b' => ?_, fun b' => ?_, fun b1 b2 k base1 base2 h1 h2 => ?_, fun b' => ?_⟩
  rotate_left 3
  · unfold updM upd; split
    · rfl
    · exact hs.opq b'
  · unfold updM upd; split
    · rfl
    · exact hs.ver b'
  · by_cases h : b' = b
    · subst h
      simp only [updM, upd, if_true]
      refine .inr ⟨c, base', C', e, rfl, hc', by rw [hC]; exact hl, fun j d hd => ?_⟩
      obtain ⟨v, hv, hrep⟩ := hr j d hd
      exact ⟨v, hv, hrep.step hstep⟩
    · simp only [updM, upd, h, if_false]
      exact (hs.con b').step hstep fun k base1 hlc => hother k (fun hk => h (by subst hk; exact hs.inj b' b k base1 base hlc hloc))
  · by_cases e1 : b1 = b <;> by_cases e2 : b2 = b
    · omega
    · simp only [updM, e1, if_true] at h1
      simp only [updM, e2, if_false] at h2
      injection h1 with h1; injection h1 with h1; subst h1
      exact absurd (hs.inj b2 b _ base2 base h2 hloc) e2
    · simp only [updM, e1, if_false] at h1
      simp only [updM, e2, if_true] at h2
      injection h2 with h2; injection h2 with h2; subst h2
      exact absurd (hs.inj b1 b _ base1 base h1 hloc) e1
    · simp only [updM, e1, if_false] at h1
      simp only [updM, e2, if_false] at h2
      exact hs.inj b1 b2 k base1 base2 h1 h2

/-- only the count of draws has moved -/
theorem step_same {w w' : World} {M : Ctx} {H : Heap} (hs : Sim w M H) (hw : w'.heap = w.heap) (hsame : Same w w' := by exact ⟨rfl, rfl, rfl⟩) : Step w M w' M ∧ Sim w' M H := by
  have hstep : Step w M w' M := ⟨by rw [hw]; exact Nat.le_refl _, fun _ => Nat.le_refl _, fun _ _ => .inr rfl, fun _ _ h => h, fun _ _ h => h, fun _ _ _ => by rw [hw], fun c _ C' e' fr' h => ⟨C', e', fr', by rw [← hw]; exact h, rfl⟩, hs.known, fun _ _ => rfl, hsame⟩
  exact ⟨hstep, hs.ver, fun b => (hs.con b).step hstep fun c base _ => by rw [hw], hs.inj, hs.opq⟩

/-- a block that is made anew but holds nothing: an empty slice -/
theorem sim_nil {w w' : World} {M : Ctx} {H : Heap} (hs : Sim w M H) (b : Nat) (hnv : (H b).con.isOpq = false) (a : Option Addr) (hw : w'.heap = w.heap) (ver' : Nat) (hv : (H b).ver < ver') (hsame : Same w w' := by exact ⟨rfl, rfl, rfl⟩) :
    Step w M w' (updM M b ⟨ver', some (.nil a), false⟩) ∧ Sim w' (updM M b ⟨ver', some (.nil a), false⟩) (upd H b ⟨ver', .cells []⟩) := by
  have hstep : Step w M w' (updM M b ⟨ver', some (.nil a), false⟩) := by
    refine ⟨by rw [hw]; exact Nat.le_refl _, fun b' => ?_, fun b' he => ?_, fun c hc hlv => ?_, fun c hc hlv => ?_, fun c hc _ => by rw [hw], fun c hc C' e' fr' h => ⟨C', e', fr', by rw [← hw]; exact h, rfl⟩, hs.known, fun b' ho => ?_, hsame⟩
    · unfold updM; split
      · rename_i h; subst h; rw [hs.ver]; exact Nat.le_of_lt hv
      · exact Nat.le_refl _
    · unfold updM at he ⊢; split
      · rename_i h; subst h; simp [hs.ver] at he; omega
      · exact .inr rfl
    · obtain ⟨b', base, h⟩ := hlv
      unfold updM at h; split at h
      · cases h
      · exact ⟨b', base, h⟩
    · obtain ⟨b', base, h, h2⟩ := hlv
      unfold updM at h h2; split at h
      · cases h
      · rename_i hne; rw [if_neg hne] at h2; exact ⟨b', base, h, h2⟩
    · unfold updM; split
      · rename_i h; subst h; rw [hs.opq, hnv] at ho; cases ho
      · rfl
  refine ⟨hstep, fun b' => ?_, fun b' => ?_, fun b1 b2 c base base' h1 h2 => ?_, fun b' => ?_⟩
  rotate_left 3
  · unfold updM upd; split
    · rfl
    · exact hs.opq b'
  · unfold updM upd; split
    · rfl
    · exact hs.ver b'
  · by_cases h : b' = b
    · subst h
      simp only [updM, upd, if_true]
      exact .inl ⟨a, rfl, rfl⟩
    · simp only [updM, upd, h, if_false]
      exact (hs.con b').step hstep fun c base hlc => by rw [hw]
  · unfold updM at h1 h2
    split at h1
    · cases h1
    · split at h2
      · cases h2
      · exact hs.inj b1 b2 c base base' h1 h2

/-! ### what the model's words do -/
section
variable {P : Program} (w : World)
theorem run_info {t : TypeId} {i : TypeInfo} (h : P.info? t = some i) : (typeInfo t).run P w = .ok i w := by simp [typeInfo, h]
theorem run_sizeOf {t : TypeId} {i : TypeInfo} (h : P.info? t = some i) : (sizeOf t).run P w = .ok i.size w := by simp [sizeOf, typeInfo, h]
theorem run_zero {t : TypeId} {i : TypeInfo} {z : Value} (h : P.info? t = some i) (hz : i.zero = some z) : (zeroValue t).run P w = .ok z w := by simp [zeroValue, typeInfo, h, hz]
theorem run_isAgg {t : TypeId} {d : TypeDesc} (h : P.underlying t = some d) : (isAgg t).run P w = .ok (isAggD d) w := by
  simp only [isAgg, Sem.run_bind, run_underlying h, Result.andThen_ok]
  cases d <;> rfl

theorem run_loadVar_agg {t : TypeId} {i : TypeInfo} {d : TypeDesc} (hi : P.info? t = some i) (hd : P.underlying t = some d) (ha : isAggD d = true) (ad : Addr) (f : Nat → Value)
    (h : ∀ j, j < i.size → w.cell? (ad.add j) = some (f j)) : (loadVar t ad).run P w = .ok (.agg ((List.range i.size).map f).toArray) w := by
  simp only [loadVar, Sem.run_bind, run_isAgg w hd, Result.andThen_ok, ha, if_true, run_sizeOf w hi, run_loadCells w ad i.size f h, Sem.run_pure]

theorem run_loadVar_one {t : TypeId} {d : TypeDesc} (hd : P.underlying t = some d) (ha : isAggD d = false) (ad : Addr) (v : Value)
    (h : w.cell? ad = some v) : (loadVar t ad).run P w = .ok v w := by
  simp [loadVar, run_isAgg w hd, ha, h]
end

end Abs
end Go.Proofs.Ytfojedaccfenfab
