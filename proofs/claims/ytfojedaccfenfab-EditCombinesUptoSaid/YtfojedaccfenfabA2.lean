/- The state of a Go function's abstract run, what a call does to it, and the rules for the model's code. -/
import Derived.Test.YtfojedaccfenfabA1
import Derived.Deep.LoopGhost
namespace Go.Proofs.Ytfojedaccfenfab
namespace Abs

def mrg (n : Nat) (h : Heap) (lc : List Blk) : Heap := fun b => if b < n then h b else lc.getD (b - n) blk0

theorem mrg_lt {n : Nat} {h : Heap} {lc : List Blk} {b : Nat} (hb : b < n) : mrg n h lc b = h b := by simp [mrg, hb]
theorem mrg_loc (n : Nat) (h : Heap) (lc : List Blk) (t : Nat) : mrg n h lc (n + t) = lc.getD t blk0 := by
  simp [mrg, Nat.not_lt.2 (Nat.le_add_right n t)]
theorem mrg_nil (n : Nat) (h : Heap) (lc : List Blk) : mrg (n + lc.length) (mrg n h lc) [] = mrg n h lc := by
  funext b
  unfold mrg
  by_cases h1 : b < n
  · simp [h1, Nat.lt_of_lt_of_le h1 (Nat.le_add_right _ _)]
  · by_cases h2 : b < n + lc.length
    · simp [h1, h2]
    · have : lc[b - n]? = none := by rw [List.getElem?_eq_none_iff]; omega
      simp [h1, h2, this]
theorem mrg_app (n : Nat) (h : Heap) (lc x : List Blk) : mrg (n + lc.length) (mrg n h lc) x = mrg n h (lc ++ x) := by
  funext b
  unfold mrg
  by_cases h1 : b < n
  · simp [h1, Nat.lt_of_lt_of_le h1 (Nat.le_add_right _ _)]
  · by_cases h2 : b < n + lc.length
    · have : b - n < lc.length := by omega
      simp [h1, h2, List.getElem?_append_left this]
    · have : lc.length ≤ b - n := by omega
      simp only [h1, h2, if_false, List.getD, List.getElem?_append_right this]
      congr 2
      omega

def upd (h : Heap) (b : Nat) (x : Blk) : Heap := fun b' => if b' = b then x else h b'
theorem upd_same (h : Heap) (b : Nat) (x : Blk) : upd h b x b = x := by simp [upd]
theorem upd_ne {h : Heap} {b b' : Nat} {x : Blk} (e : b' ≠ b) : upd h b x b' = h b' := by simp [upd, e]
theorem mrg_upd_loc {n : Nat} {h : Heap} {lc : List Blk} {t : Nat} (x : Blk) (ht : t < lc.length) : upd (mrg n h lc) (n + t) x = mrg n h (lc.set t x) := by
  funext b
  unfold upd mrg
  by_cases h1 : b = n + t
  · subst h1
    have : ¬ n + t < n := by omega
    simp [this, ht]
  · by_cases h2 : b < n
    · simp [h1, h2]
    · have : ¬ (t = b - n) := by omega
      simp [h1, h2, this]
theorem mrg_upd_lt {n : Nat} {h : Heap} {lc : List Blk} {b : Nat} (x : Blk) (hb : b < n) : upd (mrg n h lc) b x = mrg n (upd h b x) lc := by
  funext b'
  unfold upd mrg
  by_cases h1 : b' = b
  · subst h1; simp [hb]
  · simp [h1]

/-! ### values whose blocks are of a kind -/
inductive Bd (p : Nat → Nat → Prop) : D → Prop
  | top : Bd p .top
  | abool : Bd p .abool
  | bool (b : Bool) : Bd p (.bool b)
  | int (k : IntKind) (i : Int) : Bd p (.int k i)
  | str (s : ByteArray) : Bd p (.str s)
  | agg (cs : List D) (h : ∀ c ∈ cs, Bd p c) : Bd p (.agg cs)
  | tup (cs : List D) (h : ∀ c ∈ cs, Bd p c) : Bd p (.tup cs)
  | nils : Bd p .nils
  | emp : Bd p .emp
  | lst (l : List D) (h : ∀ c ∈ l, Bd p c) : Bd p (.lst l)
  | ref (sz b ver off len : Nat) (h : p b ver) : Bd p (.ref sz b ver off len)
  | adr (cs : List D) (h : ∀ c ∈ cs, Bd p c) : Bd p (.adr cs)
  | ptr (b ver off : Nat) (h : p b ver) : Bd p (.ptr b ver off)
  | nilp : Bd p .nilp
  | fn (f : FuncId) (cs : List D) (h : ∀ c ∈ cs, Bd p c) : Bd p (.fn f cs)
  | nilfn : Bd p .nilfn
  | map (b ver : Nat) (h : p b ver) : Bd p (.map b ver)
  | nilmap : Bd p .nilmap
  | iface (t : TypeId) (d : D) (h : Bd p d) : Bd p (.iface t d)
  | nilif : Bd p .nilif

/-- values that name no block from n on -/
abbrev Low (n : Nat) : D → Prop := Bd (fun b ver => b < n ∨ ver = 0)

theorem Bd.of_cells {p : Nat → Nat → Prop} {d : D} (h : ∀ c ∈ d.cells, Bd p c) : Bd p d := by
  cases d with
  | agg cs => exact .agg cs h
  | _ => exact h _ (by simp [D.cells])

theorem Bd.cells {p : Nat → Nat → Prop} {d : D} (h : Bd p d) : ∀ c ∈ d.cells, Bd p c := by
  cases h with
  | agg cs h => exact h
  | _ => intro c hc; simp [D.cells] at hc; subst hc; constructor <;> assumption

section
variable {p : Nat → Nat → Prop}
theorem bd_agg {cs : List D} : Bd p (.agg cs) ↔ ∀ c ∈ cs, Bd p c := ⟨fun h => by cases h; assumption, .agg cs⟩
theorem bd_tup {cs : List D} : Bd p (.tup cs) ↔ ∀ c ∈ cs, Bd p c := ⟨fun h => by cases h; assumption, .tup cs⟩
theorem bd_lst {cs : List D} : Bd p (.lst cs) ↔ ∀ c ∈ cs, Bd p c := ⟨fun h => by cases h; assumption, .lst cs⟩
theorem bd_adr {cs : List D} : Bd p (.adr cs) ↔ ∀ c ∈ cs, Bd p c := ⟨fun h => by cases h; assumption, .adr cs⟩
theorem bd_fn {f : FuncId} {cs : List D} : Bd p (.fn f cs) ↔ ∀ c ∈ cs, Bd p c := ⟨fun h => by cases h; assumption, .fn f cs⟩
theorem bd_ref {sz b ver off len : Nat} : Bd p (.ref sz b ver off len) ↔ p b ver := ⟨fun h => by cases h; assumption, .ref _ _ _ _ _⟩
theorem bd_ptr {b ver off : Nat} : Bd p (.ptr b ver off) ↔ p b ver := ⟨fun h => by cases h; assumption, .ptr _ _ _⟩
theorem bd_map {b ver : Nat} : Bd p (.map b ver) ↔ p b ver := ⟨fun h => by cases h; assumption, .map _ _⟩
theorem bd_iface {t : TypeId} {d : D} : Bd p (.iface t d) ↔ Bd p d := ⟨fun h => by cases h; assumption, .iface _ _⟩
theorem Bd.mono {q : Nat → Nat → Prop} (hpq : ∀ b ver, p b ver → q b ver) {d : D} (h : Bd p d) : Bd q d := by
  induction h with
  | top => exact .top
  | abool => exact .abool
  | bool b => exact .bool b
  | int k i => exact .int k i
  | str s => exact .str s
  | agg cs _ ih => exact .agg cs ih
  | tup cs _ ih => exact .tup cs ih
  | nils => exact .nils
  | emp => exact .emp
  | lst cs _ ih => exact .lst cs ih
  | ref sz b ver off len h => exact .ref _ _ _ _ _ (hpq _ _ h)
  | adr cs _ ih => exact .adr cs ih
  | ptr b ver off h => exact .ptr _ _ _ (hpq _ _ h)
  | nilp => exact .nilp
  | fn f cs _ ih => exact .fn f cs ih
  | nilfn => exact .nilfn
  | map b ver h => exact .map _ _ (hpq _ _ h)
  | nilmap => exact .nilmap
  | iface t d _ ih => exact .iface t d ih
  | nilif => exact .nilif
end

section
variable {n : Nat}
theorem low_agg {cs : List D} : Low n (.agg cs) ↔ ∀ c ∈ cs, Low n c := bd_agg
theorem low_tup {cs : List D} : Low n (.tup cs) ↔ ∀ c ∈ cs, Low n c := bd_tup
theorem low_lst {cs : List D} : Low n (.lst cs) ↔ ∀ c ∈ cs, Low n c := bd_lst
theorem low_adr {cs : List D} : Low n (.adr cs) ↔ ∀ c ∈ cs, Low n c := bd_adr
theorem low_fn {f : FuncId} {cs : List D} : Low n (.fn f cs) ↔ ∀ c ∈ cs, Low n c := bd_fn
theorem low_ref {sz b ver off len : Nat} : Low n (.ref sz b ver off len) ↔ b < n ∨ ver = 0 := bd_ref (p := fun b ver => b < n ∨ ver = 0)
theorem low_ptr {b ver off : Nat} : Low n (.ptr b ver off) ↔ b < n ∨ ver = 0 := bd_ptr (p := fun b ver => b < n ∨ ver = 0)
theorem low_map {b ver : Nat} : Low n (.map b ver) ↔ b < n ∨ ver = 0 := bd_map (p := fun b ver => b < n ∨ ver = 0)
theorem low_iface {t : TypeId} {d : D} : Low n (.iface t d) ↔ Low n d := bd_iface
end

theorem Rep.bd {w : World} {M : Ctx} {p : Nat → Nat → Prop} (key : ∀ b ver, ver ≤ (M b).ver → p b ver) {d : D} {v : Value} (h : Rep w M d v) : Bd p d := by
  induction h with
  | top v => exact .top
  | abool b => exact .abool
  | bool b => exact .bool b
  | int k i => exact .int k i
  | str s => exact .str s
  | agg cs vs hl _ ih =>
    refine .agg cs fun c hc => ?_
    obtain ⟨i, hi, rfl⟩ := List.mem_iff_getElem.1 hc
    exact ih i _ vs[i] (by simp [hi]) (by simp [hl, hi])
  | tup cs vs hl _ ih =>
    refine .tup cs fun c hc => ?_
    obtain ⟨i, hi, rfl⟩ := List.mem_iff_getElem.1 hc
    exact ih i _ vs[i] (by simp [hi]) (by simp [hl, hi])
  | nils => exact .nils
  | emp a => exact .emp
  | lst0 a c => exact .lst [] (by simp)
  | lst l ad c sz u hc hsp hb hlive hsz hcell _ ih =>
    refine .lst l fun d hd => .of_cells fun e he => ?_
    obtain ⟨i, hi⟩ := List.mem_iff_getElem?.1 hd
    obtain ⟨j, hj⟩ := List.mem_iff_getElem?.1 he
    exact ih i _ hi j _ hj
  | ref sz b ver off len v hv h h1 => exact .ref _ _ _ _ _ (key b ver hv)
  | adr cs ad u hsp hb hlive hcell _ ih =>
    refine .adr cs fun e he => ?_
    obtain ⟨j, hj, rfl⟩ := List.mem_iff_getElem.1 he
    exact ih j _ (by simp [hj])
  | ptr b ver off v hv h h1 => exact .ptr _ _ _ (key b ver hv)
  | nilp => exact .nilp
  | fn f cs vs hl _ ih =>
    refine .fn f cs fun c hc => ?_
    obtain ⟨i, hi, rfl⟩ := List.mem_iff_getElem.1 hc
    exact ih i _ vs[i] (by simp [hi]) (by simp [hl, hi])
  | nilfn => exact .nilfn
  | map b ver v hv h h1 => exact .map _ _ (key b ver hv)
  | nilmap => exact .nilmap
  | iface t d v _ ih => exact .iface t d ih
  | nilif => exact .nilif

theorem Rep.low {w : World} {M : Ctx} {n : Nat} (hM : ∀ b, n ≤ b → (M b).ver = 0) {d : D} {v : Value} (h : Rep w M d v) : Low n d :=
  h.bd fun b ver hv => by
    by_cases hb : b < n
    · exact .inl hb
    · have := hM b (by omega); omega

/-- what a value says of the world, in a context that knows less of it -/
theorem Rep.relow {w : World} {M M' : Ctx} {p : Nat → Nat → Prop} (hA : ∀ b ver, p b ver → ver ≤ (M b).ver → ver ≤ (M' b).ver ∧ ((M' b).ver = ver → (M' b).loc = none ∨ ((M b).ver = ver ∧ (M' b).loc = (M b).loc)))
    (hlive : ∀ c, Occ M' c → Occ M c) {d : D} {v : Value} (h : Rep w M d v) : Bd p d → Rep w M' d v := by
  induction h with
  | top v => exact fun _ => .top v
  | abool b => exact fun _ => .abool b
  | bool b => exact fun _ => .bool b
  | int k i => exact fun _ => .int k i
  | str s => exact fun _ => .str s
  | agg cs vs hl _ ih =>
    intro hl'; rw [bd_agg] at hl'
    exact .agg cs vs hl fun i c v hc hv => ih i c v hc hv (hl' c (List.mem_of_getElem? hc))
  | tup cs vs hl _ ih =>
    intro hl'; rw [bd_tup] at hl'
    exact .tup cs vs hl fun i c v hc hv => ih i c v hc hv (hl' c (List.mem_of_getElem? hc))
  | nils => exact fun _ => .nils
  | emp a => exact fun _ => .emp a
  | lst0 a c => exact fun _ => .lst0 a c
  | lst l ad c sz u hc hsp hb hlv hsz hcell _ ih =>
    intro hl'; rw [bd_lst] at hl'
    exact .lst l ad c sz u hc hsp hb (fun h => hlv (hlive _ h)) hsz hcell fun i d hd j e he => ih i d hd j e he ((hl' d (List.mem_of_getElem? hd)).cells e (List.mem_of_getElem? he))
  | ref sz b ver off len v hv h h1 =>
    intro hl'; rw [bd_ref] at hl'
    obtain ⟨h2, h3⟩ := hA b ver hl' hv
    exact .ref _ _ _ _ _ _ h2 (fun e => by
      rcases h3 e with h4 | ⟨h4, h5⟩
      · rw [h4]; trivial
      · rw [h5]; exact h h4) h1
  | adr cs ad u hsp hb hlv hcell _ ih =>
    intro hl'; rw [bd_adr] at hl'
    exact .adr cs ad u hsp hb (fun h => hlv (hlive _ h)) hcell fun j e he => ih j e he (hl' e (List.mem_of_getElem? he))
  | ptr b ver off v hv h h1 =>
    intro hl'; rw [bd_ptr] at hl'
    obtain ⟨h2, h3⟩ := hA b ver hl' hv
    exact .ptr _ _ _ _ h2 (fun e => by
      rcases h3 e with h4 | ⟨h4, h5⟩
      · rw [h4]; trivial
      · rw [h5]; exact h h4) h1
  | nilp => exact fun _ => .nilp
  | fn f cs vs hl _ ih =>
    intro hl'; rw [bd_fn] at hl'
    exact .fn f cs vs hl fun i c v hc hv => ih i c v hc hv (hl' c (List.mem_of_getElem? hc))
  | nilfn => exact fun _ => .nilfn
  | map b ver v hv h h1 =>
    intro hl'; rw [bd_map] at hl'
    obtain ⟨h2, h3⟩ := hA b ver hl' hv
    exact .map _ _ _ h2 (fun e => by
      rcases h3 e with h4 | ⟨h4, h5⟩
      · rw [h4]; trivial
      · rw [h5]; exact h h4) h1
  | nilmap => exact fun _ => .nilmap
  | iface t d v _ ih => intro hl'; rw [bd_iface] at hl'; exact .iface t d v (ih hl')
  | nilif => exact fun _ => .nilif

/-! ### what a stretch of code does to the world, as its caller sees it -/
structure Grows (n : Nat) (w : World) (M : Ctx) (w' : World) (M' : Ctx) : Prop where
  size : w.heap.size ≤ w'.heap.size
  ver : ∀ b, b < n → (M b).ver ≤ (M' b).ver
  loc : ∀ b, b < n → (M' b).ver = (M b).ver → (M' b).loc = none ∨ (M' b).loc = (M b).loc
  occ : ∀ c, c < w.heap.size → Occ M' c → Occ M c
  live : ∀ c, c < w.heap.size → Live M' c → Live M c
  imm : ∀ c, c < w.heap.size → ¬ Live M c → w'.heap[c]? = w.heap[c]?
  shape : ∀ c, c < w.heap.size → ∀ C' e' fr', w'.heap[c]? = some (.cells C' e' fr') → ∃ C e fr, w.heap[c]? = some (.cells C e fr) ∧ C.size = C'.size
  opq : ∀ b, b < n → (M b).opq = true → M' b = M b
  same : Same w w'

theorem Grows.refl (n : Nat) (w : World) (M : Ctx) : Grows n w M w M :=
  ⟨Nat.le_refl _, fun _ _ => Nat.le_refl _, fun _ _ _ => .inr rfl, fun _ _ h => h, fun _ _ h => h, fun _ _ _ => rfl, fun _ _ C' e' fr' h => ⟨C', e', fr', h, rfl⟩, fun _ _ _ => rfl, .refl w⟩

theorem Grows.trans {n : Nat} {w w' w'' : World} {M M' M'' : Ctx} (h : Grows n w M w' M') (h' : Grows n w' M' w'' M'') : Grows n w M w'' M'' where
  size := Nat.le_trans h.size h'.size
  ver b hb := Nat.le_trans (h.ver b hb) (h'.ver b hb)
  loc b hb e := by
    have h1 := h.ver b hb
    have h2 := h'.ver b hb
    rcases h'.loc b hb (by omega) with h3 | h3
    · exact .inl h3
    · rw [h3]; exact h.loc b hb (by omega)
  occ c hc hl := h.occ c hc (h'.occ c (Nat.lt_of_lt_of_le hc h.size) hl)
  live c hc hl := h.live c hc (h'.live c (Nat.lt_of_lt_of_le hc h.size) hl)
  imm c hc hl := (h'.imm c (Nat.lt_of_lt_of_le hc h.size) (fun hh => hl (h.live c hc hh))).trans (h.imm c hc hl)
  shape c hc C' e' fr' hh := by
    obtain ⟨C1, e1, fr1, h1, h2⟩ := h'.shape c (Nat.lt_of_lt_of_le hc h.size) C' e' fr' hh
    obtain ⟨C2, e2, fr2, h3, h4⟩ := h.shape c hc C1 e1 fr1 h1
    exact ⟨C2, e2, fr2, h3, h4.trans h2⟩
  opq b hb ho := by
    have h1 := h.opq b hb ho
    rw [h'.opq b hb (by rw [h1]; exact ho), h1]
  same := h.same.trans h'.same

theorem Step.grows {w w' : World} {M M' : Ctx} (h : Step w M w' M') (n : Nat) : Grows n w M w' M' :=
  ⟨h.size, fun b _ => h.ver b, fun b _ e => h.loc b e, h.occ, h.live, h.imm, h.shape, fun b _ => h.opq b, h.same⟩

/-- what a call leaves is a step for all that its caller knows: the context knew nothing from n on -/
theorem Grows.step {n : Nat} {w w' : World} {M M' : Ctx} (h : Grows n w M w' M') (hn : ∀ b, n ≤ b → M b = hole) (hM : ∀ b, n ≤ b → (M' b).ver = 0 → (M' b).loc = none)
    (hk : ∀ b c base, (M b).loc = some (.mem c base) → c < w.heap.size) : Step w M w' M' where
  size := h.size
  ver b := by
    by_cases hb : b < n
    · exact h.ver b hb
    · rw [hn b (by omega)]; exact Nat.zero_le _
  loc b e := by
    by_cases hb : b < n
    · exact h.loc b hb e
    · rw [hn b (by omega)] at e; exact .inl (hM b (by omega) e)
  occ := h.occ
  live := h.live
  imm := h.imm
  shape := h.shape
  known := hk
  opq b ho := by
    by_cases hb : b < n
    · exact h.opq b hb ho
    · rw [hn b (by omega)] at ho; cases ho
  same := h.same

/-! ### states -/
structure St where
  n : Nat
  sl : List D
  h : Heap
  lc : List Blk

def St.hp (s : St) : Heap := mrg s.n s.h s.lc

structure SimA (s : St) (a : Act) (w : World) (M : Ctx) : Prop where
  defers : a.defers = []
  size : a.tmps.size = s.sl.length
  sl : ∀ (t : Nat) (d : D) (v : Value), s.sl[t]? = some d → a.tmps[t]? = some v → Rep w M d v
  sim : Sim w M s.hp

structure Reps (w : World) (M : Ctx) (ds : List D) (vs : Array Value) : Prop where
  size : vs.size = ds.length
  rep : ∀ (i : Nat) (d : D) (v : Value), ds[i]? = some d → vs[i]? = some v → Rep w M d v

/-- a call: whatever stands for the arguments and the heap, it returns what stands for the result -/
def goodFn (P : Program) (f : FuncId) : Bool :=
  match P.funcs[f]? with
  | some fn => fn.body.isSome && !(fn.name == "runtime.NumGoroutine")
  | none => false

def ACalls (P : Program) (f : FuncId) (ds : List D) (n : Nat) (h : Heap) (R : D → Heap → List Blk → Prop) : Prop :=
  goodFn P f = true ∧ ∀ (w : World) (M : Ctx) (vs : Array Value), Sim w M (mrg n h []) → Reps w M ds vs →
    Calls P f vs w fun e w' => ∃ v d h' x M', e = .returned v ∧ R d h' x ∧ (∀ k ∈ x, 1 ≤ k.ver) ∧ Sim w' M' (mrg n h' x) ∧ Rep w' M' d v ∧ Grows n w M w' M'

theorem ACalls.mono {P : Program} {f : FuncId} {ds : List D} {n : Nat} {h : Heap} {R R' : D → Heap → List Blk → Prop} (hc : ACalls P f ds n h R)
    (hr : ∀ d h' x, R d h' x → R' d h' x) : ACalls P f ds n h R' :=
  ⟨hc.1, fun w M vs hs hv => (hc.2 w M vs hs hv).mono fun _ _ ⟨v, d, h', x, M', he, hR, hk, hS, hrep, hg⟩ => ⟨v, d, h', x, M', he, hr d h' x hR, hk, hS, hrep, hg⟩⟩

/-- code, from an abstract state -/
def Awp (P : Program) (c : Code) (Q : Exit → St → Prop) (s : St) : Prop :=
  ∀ (a : Act) (w : World) (M : Ctx), SimA s a w M → c.wp P (fun e a' w' => ∃ s' M', s'.n = s.n ∧ Q e s' ∧ SimA s' a' w' M' ∧ Grows s.n w M w' M') a w

section rules
variable {P : Program} {Q Q' : Exit → St → Prop} {s : St}

theorem awp_mono {c : Code} (h : Awp P c Q s) (hq : ∀ e s, Q e s → Q' e s) : Awp P c Q' s :=
  fun a w M hs => wp_mono (h a w M hs) fun e _ _ ⟨s', M', hn, q, r⟩ => ⟨s', M', hn, hq e s' q, r⟩

theorem awp_skip (h : Q .normal s) : Awp P .skip Q s := fun _ _ M hs => wp_skip ⟨s, M, rfl, h, hs, .refl ..⟩
theorem awp_ret (h : Q .ret s) : Awp P .ret Q s := fun _ _ M hs => wp_ret ⟨s, M, rfl, h, hs, .refl ..⟩
theorem awp_exit {id : Nat} (h : Q (.exit id) s) : Awp P (.exit id) Q s := fun _ _ M hs => wp_exit ⟨s, M, rfl, h, hs, .refl ..⟩

def AThen (next : St → Prop) (Q : Exit → St → Prop) : Exit → St → Prop
  | .normal, s => next s
  | e, s => Q e s

theorem awp_seq {x y : Code} (h : Awp P x (AThen (Awp P y Q) Q) s) : Awp P (.seq x y) Q s := by
  intro a w M hs
  refine wp_seq (wp_mono (h a w M hs) fun e a' w' ⟨s', M', hn, q, hs', hg⟩ => ?_)
  cases e with
  | normal => exact wp_mono (q a' w' M' hs') fun e a'' w'' ⟨s'', M'', hn', q', hs'', hg'⟩ => ⟨s'', M'', hn'.trans hn, q', hs'', hg.trans (hn ▸ hg')⟩
  | exit id => exact ⟨s', M', hn, q, hs', hg⟩
  | goto l => exact ⟨s', M', hn, q, hs', hg⟩
  | ret => exact ⟨s', M', hn, q, hs', hg⟩
  | panic ch => exact ⟨s', M', hn, q, hs', hg⟩
  | outgrown => exact ⟨s', M', hn, q, hs', hg⟩

def AInBlock (id : Nat) (Q : Exit → St → Prop) : Exit → St → Prop
  | .exit id', s => if id' = id then Q .normal s else Q (.exit id') s
  | e, s => Q e s

theorem awp_block {id : Nat} {c : Code} (h : Awp P c (AInBlock id Q) s) : Awp P (.block id c) Q s := by
  intro a w M hs
  refine wp_block (wp_mono (h a w M hs) fun e a' w' ⟨s', M', hn, q, hs', hg⟩ => ?_)
  cases e with
  | exit id' =>
    simp only [Exit.inBlock, AInBlock] at q ⊢
    split
    · rename_i he; rw [if_pos he] at q; exact ⟨s', M', hn, q, hs', hg⟩
    · rename_i he; rw [if_neg he] at q; exact ⟨s', M', hn, q, hs', hg⟩
  | normal => exact ⟨s', M', hn, q, hs', hg⟩
  | goto l => exact ⟨s', M', hn, q, hs', hg⟩
  | ret => exact ⟨s', M', hn, q, hs', hg⟩
  | panic ch => exact ⟨s', M', hn, q, hs', hg⟩
  | outgrown => exact ⟨s', M', hn, q, hs', hg⟩

/-- a state that tells less -/
def Le (s s' : St) : Prop := s'.n = s.n ∧ ∀ (a : Act) (w : World) (M : Ctx), SimA s a w M → ∃ M', SimA s' a w M' ∧ Grows s.n w M w M'

theorem Le.refl (s : St) : Le s s := ⟨rfl, fun _ _ M h => ⟨M, h, .refl ..⟩⟩
theorem Le.trans {s1 s2 s3 : St} (h : Le s1 s2) (h' : Le s2 s3) : Le s1 s3 :=
  ⟨h'.1.trans h.1, fun a w M hs => let ⟨M', hs', hg⟩ := h.2 a w M hs; let ⟨M'', hs'', hg'⟩ := h'.2 a w M' hs'; ⟨M'', hs'', hg.trans (h.1 ▸ hg')⟩⟩

theorem awp_le {c : Code} {s' : St} (hl : Le s s') (h : Awp P c Q s') : Awp P c Q s := by
  intro a w M hs
  obtain ⟨M', hs', hg⟩ := hl.2 a w M hs
  exact wp_mono (h a w M' hs') fun e a' w' ⟨s'', M'', hn, q, hs'', hg'⟩ => ⟨s'', M'', hn.trans hl.1, q, hs'', hg.trans (hl.1 ▸ hg')⟩

/-- the loop: at each round's head the state is one of a family's members (or tells more) -/
theorem awp_loop {β : Type} {c : Code} (S : β → St) (I : β → Prop) (μ : β → Nat) (b0 : β) (h0 : I b0) (hs0 : Le s (S b0))
    (round : ∀ b, I b → Awp P c (AThen (fun s' => ∃ b', I b' ∧ μ b' < μ b ∧ Le s' (S b')) Q) (S b)) : Awp P (.loop c) Q s := by
  intro a w M hs
  obtain ⟨M0, hs0', hg0⟩ := hs0.2 a w M hs
  refine wp_loop_ghost (fun m a' w' => ∃ b M', μ b = m ∧ I b ∧ (S b).n = s.n ∧ SimA (S b) a' w' M' ∧ Grows s.n w M w' M') (μ b0) ⟨b0, M0, rfl, h0, hs0.1, hs0', hg0⟩ ?_
  rintro m a1 w1 ⟨b, M1, rfl, hI, hn, hsim, hg⟩
  refine wp_mono (round b hI a1 w1 M1 hsim) fun e a2 w2 ⟨s2, M2, hn2, q, hs2, hg2⟩ => ?_
  rw [hn] at hn2 hg2
  cases e with
  | normal =>
    obtain ⟨b', hI', hlt, hle⟩ := q
    obtain ⟨M3, hs3, hg3⟩ := hle.2 a2 w2 M2 hs2
    rw [hn2] at hg3
    exact ⟨μ b', hlt, b', M3, rfl, hI', hle.1.trans hn2, hs3, (hg.trans hg2).trans hg3⟩
  | exit id => exact ⟨s2, M2, hn2, q, hs2, hg.trans hg2⟩
  | goto l => exact ⟨s2, M2, hn2, q, hs2, hg.trans hg2⟩
  | ret => exact ⟨s2, M2, hn2, q, hs2, hg.trans hg2⟩
  | panic ch => exact ⟨s2, M2, hn2, q, hs2, hg.trans hg2⟩
  | outgrown => exact ⟨s2, M2, hn2, q, hs2, hg.trans hg2⟩
end rules

end Abs
end Go.Proofs.Ytfojedaccfenfab
