/- What the operations' abstract run says holds of the model's run: values built, slices made and appended to. What the operations' abstract run says holds of the model's run: append. An operation's abstract run is sound. Calls, and regions of operations in the order of the text; a function's body. States that tell less: values dropped, blocks renamed, dropped or held to be data from now on; a function's entry and return. A function's entry and return. -/
import Derived.Test.YtokdeeagghhliaaA9
namespace Go.Proofs.Ytokdeeagghhliaa
namespace Abs
variable {P : Program} {s : St} {o : Oper} {a : Act} {w : World} {M : Ctx} {K : D → Chg → Prop}

def RepC (w : World) (M : Ctx) (cs : List D) (C : Array Value) : Prop :=
  C.size = cs.length ∧ ∀ (j : Nat) (d : D) (v : Value), cs[j]? = some d → C[j]? = some v → Rep w M d v

theorem RepC.ex {cs : List D} {C : Array Value} (h : RepC w M cs C) : ∀ (j : Nat) (d : D), cs[j]? = some d → ∃ v, C[j]? = some v ∧ Rep w M d v := fun j d hd => by
  have hj : j < C.size := by rw [h.1]; exact (List.getElem?_eq_some_iff.1 hd).1
  exact ⟨C[j], by simp [hj], h.2 j d _ hd (by simp [hj])⟩

theorem litD_cells (w : World) (M : Ctx) (z : Value) : RepC w M (litD z).cells z.cells := by
  by_cases hsol : (litD z).solid = true
  · exact rep_solid (litD_rep w M z) hsol
  · have hna : ∀ cs, z ≠ .agg cs := by rintro cs rfl; simp [litD, D.solid] at hsol
    have h1 : litD z = litC z := by
      unfold litD
      split
      · exact absurd rfl (hna _)
      · rfl
    have h2 : litC z = .top := by
      rw [h1] at hsol
      unfold litC at hsol ⊢
      split <;> first | rfl | (simp [D.solid] at hsol)
    have h3 : z.cells = #[z] := by cases z <;> first | rfl | exact absurd rfl (hna _)
    rw [h1, h2, h3]
    refine ⟨rfl, fun j d v hd hv => ?_⟩
    cases j with
    | zero => simp [D.cells] at hd; subst hd; exact .top _
    | succ j => simp [D.cells] at hd

theorem flat_get {α : Type} (l : List α) (hl : l ≠ []) : ∀ (k j : Nat), ((List.replicate k l).flatten)[j]? = if j < k * l.length then l[j % l.length]? else none
  | 0, j => by simp
  | k + 1, j => by
    have hpos : 0 < l.length := List.length_pos_iff.2 hl
    simp only [List.replicate_succ, List.flatten_cons]
    by_cases h : j < l.length
    · rw [List.getElem?_append_left h, if_pos (by rw [Nat.add_mul]; omega), Nat.mod_eq_of_lt h]
    · rw [List.getElem?_append_right (by omega), flat_get l hl k]
      have h1 : (j - l.length) % l.length = j % l.length := by
        have := Nat.add_mod_right (j - l.length) l.length
        rw [Nat.sub_add_cancel (by omega)] at this
        exact this.symm
      rw [h1]
      by_cases h2 : j - l.length < k * l.length
      · rw [if_pos h2, if_pos (by rw [Nat.add_mul]; omega)]
      · rw [if_neg h2, if_neg (by rw [Nat.add_mul]; omega)]

theorem flat_len {α : Type} (l : List α) (k : Nat) : ((List.replicate k l).flatten).length = k * l.length := by
  induction k with
  | zero => simp
  | succ k ih => simp only [List.replicate_succ, List.flatten_cons, List.length_append, ih, Nat.add_mul]; omega

/-- a row of zero values -/
theorem zeros_rep (w : World) (M : Ctx) (z : Value) (hz : z.cells.size ≠ 0) (k n : Nat) (hn : k * z.cells.size ≤ n) : ∀ (j : Nat) (d : D), ((List.replicate k (litD z).cells).flatten)[j]? = some d →
    ∃ v, ((Array.range n).map fun i => z.cells[i % z.cells.size]!)[j]? = some v ∧ Rep w M d v := by
  intro j d hd
  obtain ⟨h1, h2⟩ := litD_cells w M z
  have hne : (litD z).cells ≠ [] := by intro h; rw [h] at h1; exact hz h1
  rw [flat_get _ hne] at hd
  split at hd
  · rename_i hj
    rw [← h1] at hj hd
    have hlt : j % z.cells.size < z.cells.size := Nat.mod_lt _ (by omega)
    refine ⟨z.cells[j % z.cells.size], ?_, h2 _ d _ hd (by simp [hlt])⟩
    have hjn : j < n := by omega
    simp [hjn, hlt]
  · cases hd

theorem range0 (f : Nat → Value) : Array.map f (Array.range 0) = #[] := by apply Array.ext'; simp

theorem sound_mkslice {t e : TypeId} {x y : Operand} {i : TypeInfo} {z : Value} (hs : SimA s a w M) (ho : o.op = .makeSlice t x y) (ht : P.underlying t = some (.slice e)) (hi : P.info? e = some i) (hz : i.zero = some z) (hzs : z.cells.size = i.size) (h0 : i.size ≠ 0)
    (h : run s o.dst K (.mkslice i.size i.bytes (litD z).cells (opd x) (opd y))) : Good P s o a w M K := by
  simp only [run] at h
  have hx := val_rep hs x
  have hy := val_rep hs y
  split at h
  · rename_i n c hv hv2
    rw [hv] at hx
    rw [hv2] at hy
    obtain ⟨hn0, hnc, hcb, hc63, hnew⟩ := h
    generalize hve : a.eval x = u at hx
    generalize hve2 : a.eval y = u2 at hy
    cases hx with
    | int _ _ => cases hy with
      | int _ _ =>
        have hw1 : IntKind.i64.wrap n = n := IntWalk.i64_in n (by omega)
        have hw2 : IntKind.i64.wrap c = c := IntWalk.i64_in c (by omega)
        have e1 : ¬ (c < 0) := by omega
        have e2 : ¬ (n < 0) := by omega
        have e3 : ¬ (c < n) := by omega
        have e4 : ¬ ((281474976710656 : Int) < (i.bytes : Int) * c) := by rw [Int.mul_comm]; omega
        obtain ⟨t', ht', hlt, hnv, hQ⟩ := new_spec hnew
        have hrun : (execOp a.eval o).run P w = .ok (.value (.slice (some ⟨w.heap.size, 0, none⟩) n.toNat c.toNat)) (w.alloc (.cells ((Array.range (c.toNat * i.size)).map fun i => z.cells[i % z.cells.size]!) e)) := by
          simp [execOp, ho, hve, hve2, Instr.makeSlice, run_underlying ht, asInt, asIntOf, run_info w hi, hw1, hw2, e1, e2, e3, e4, run_sizeOf w hi, newRow]
          by_cases hc0 : c.toNat = 0
          · have : c.toNat * i.size = 0 := by rw [hc0]; simp
            simp [hc0, range0]
          · have : ¬ (c.toNat * i.size = 0) := by rw [Nat.mul_eq_zero]; omega
            rw [if_neg this]
            simp [run_zero w hi hz]
        have hlen : ((List.replicate n.toNat (litD z).cells).flatten).length ≤ ((Array.range (c.toNat * i.size)).map fun i => z.cells[i % z.cells.size]!).size := by
          rw [flat_len, ← (litD_cells w M z).1, hzs]
          simp
          exact Nat.mul_le_mul_right _ (by omega)
        obtain ⟨hst, hsim⟩ := sim_new (w' := w.alloc (.cells ((Array.range (c.toNat * i.size)).map fun i => z.cells[i % z.cells.size]!) e)) hs.sim (s.n + t') hnv _ e rfl _ hlen
          (zeros_rep w M z (by omega) n.toNat _ (by rw [hzs]; exact Nat.mul_le_mul_right _ (by omega)))
        refine ⟨_, _, _, _, _, hQ, inr_new hlt, .inl hrun, hst, hsim, .ref _ _ _ _ _ _ (by simp [updM]) (fun _ => ?_) ⟨_, _, _, rfl⟩⟩
        simp only [updM, if_true]
        refine .inr ⟨c.toNat, rfl, by omega, fun C' e' fr' hc' => ?_⟩
        simp only [World.alloc, Array.getElem?_push_size, Option.some.injEq, Obj.cells.injEq] at hc'
        rw [← hc'.1]
        simp
  · exact h.elim

theorem fold_set (off : Nat) : ∀ (vs : List Value) (m : Nat) (C : Array Value) (k : Nat),
    ((vs.zipIdx m).foldl (fun cs (p : Value × Nat) => cs.setIfInBounds (off + p.2) p.1) C)[k]? = if off + m ≤ k ∧ k < off + m + vs.length ∧ k < C.size then vs[k - off - m]? else C[k]?
  | [], m, C, k => by
    rw [if_neg (by simp only [List.length_nil]; omega)]
    rfl
  | v :: vs, m, C, k => by
    simp only [List.zipIdx_cons, List.foldl_cons]
    rw [fold_set off vs (m + 1)]
    simp only [Array.size_setIfInBounds, List.length_cons]
    by_cases h1 : off + (m + 1) ≤ k ∧ k < off + (m + 1) + vs.length ∧ k < C.size
    · rw [if_pos h1, if_pos (by omega)]
      have : k - off - m = (k - off - (m + 1)) + 1 := by omega
      rw [this, List.getElem?_cons_succ]
    · rw [if_neg h1]
      by_cases h2 : off + m = k
      · subst h2
        by_cases h3 : off + m < C.size
        · rw [if_pos (by omega)]
          simp [h3]
        · rw [if_neg (by omega)]
          simp [h3]
      · rw [if_neg (by omega), Array.getElem?_setIfInBounds_ne h2]

inductive Two {α β : Type} (R : α → β → Prop) : List α → List β → Prop
  | nil : Two R [] []
  | cons {x : α} {y : β} {l : List α} {m : List β} (h : R x y) (ht : Two R l m) : Two R (x :: l) (y :: m)

theorem fill_rep {place : Nat → Option (Nat × Nat)} (hs : SimA s a w M) : ∀ (ps : List (Nat × Operand)) (qs : List (Nat × Nat × Opd)),
    Two (fun p q => place p.1 = some (q.1, q.2.1) ∧ q.2.2 = opd p.2) ps qs → ∀ (cs : List D) (C : Array Value) (Q : List D → Prop), RepC w M cs C →
    fillD cs (qs.map fun q => (q.1, q.2.1, s.val q.2.2)) Q → ∃ cs' C', Instr.fill place C (ps.map fun p => (p.1, a.eval p.2)) = some C' ∧ RepC w M cs' C' ∧ Q cs' := by
  intro ps qs hf
  induction hf with
  | nil => exact fun cs C Q hC h => ⟨cs, C, rfl, hC, h⟩
  | @cons p q ps qs hpq _ ih =>
    intro cs C Q hC h
    simp only [List.map_cons, fillD] at h
    obtain ⟨hsol, hlen, hfit, hrest⟩ := h
    rw [hpq.2] at hsol hlen hrest
    obtain ⟨h1, h2⟩ := rep_solid (val_rep hs p.2) hsol
    have hC1 : RepC w M (splice cs q.1 (s.val (opd p.2)).cells) ((a.eval p.2).cells.zipIdx.foldl (fun cs (x : Value × Nat) => cs.setIfInBounds (q.1 + x.2) x.1) C) := by
      have hsize : ∀ (l : List (Value × Nat)) (C : Array Value), (l.foldl (fun cs (x : Value × Nat) => cs.setIfInBounds (q.1 + x.2) x.1) C).size = C.size := by
        intro l
        induction l with
        | nil => intro C; rfl
        | cons x l ihl => intro C; simp only [List.foldl_cons]; rw [ihl]; simp
      refine ⟨?_, fun j d v hd hv => ?_⟩
      · rw [← Array.foldl_toList, hsize, splice_length (by omega)]; exact hC.1
      · rw [← Array.foldl_toList, Array.toList_zipIdx, fold_set] at hv
        rw [splice_get (by omega)] at hd
        have hcs := hC.1
        simp only [Nat.add_zero, Array.length_toList, Nat.sub_zero] at hv
        by_cases h3 : j < q.1
        · rw [if_pos h3] at hd
          rw [if_neg (by omega)] at hv
          exact hC.2 j d v hd hv
        · rw [if_neg h3] at hd
          by_cases h4 : j < q.1 + (s.val (opd p.2)).cells.length
          · rw [if_pos h4] at hd
            rw [if_pos (by omega)] at hv
            exact h2 _ d v hd (by simpa using hv)
          · rw [if_neg h4] at hd
            rw [if_neg (by omega)] at hv
            exact hC.2 j d v hd hv
    obtain ⟨cs', C', h3, h4, h5⟩ := ih _ _ Q hC1 hrest
    refine ⟨cs', C', ?_, h4, h5⟩
    simp only [List.map_cons, Instr.fill, hpq.1]
    rw [if_neg (by simp; have := hC.1; omega)]
    exact h3

theorem mapM_some {α β : Type} {f : α → Option β} {g : α → β} : ∀ {l : List α}, (∀ x ∈ l, f x = some (g x)) → l.mapM f = some (l.map g)
  | [], _ => rfl
  | x :: l, h => by
    rw [List.mapM_cons, h x (by simp), mapM_some fun y hy => h y (by simp [hy])]
    rfl

theorem forall_mapM {α β : Type} {R : α → β → Prop} {f : α → Option β} (hf : ∀ x y, f x = some y → R x y) : ∀ {l : List α} {m : List β}, l.mapM f = some m → Two R l m
  | [], m, h => by simp at h; subst h; exact .nil
  | x :: l, m, h => by
    rw [List.mapM_cons] at h
    cases hx : f x with
    | none => simp [hx] at h
    | some y =>
      cases hl : l.mapM f with
      | none => simp [hx, hl] at h
      | some r =>
        simp [hx, hl] at h
        subst h
        exact .cons (hf x y hx) (forall_mapM hf hl)

theorem forall_map {α β : Type} {R : α → β → Prop} {f : α → β} (hf : ∀ x, R x (f x)) : ∀ (l : List α), Two R l (l.map f)
  | [] => .nil
  | x :: l => .cons (hf x) (forall_map hf l)

theorem sound_build_struct {t : TypeId} {parts : Array (Nat × Operand)} {fs : Array Field} {i : TypeInfo} {z : Array Value} {ps : List (Nat × Nat × Opd)} (hs : SimA s a w M) (ho : o.op = .build t parts) (ht : P.underlying t = some (.struct fs)) (hi : P.info? t = some i) (hz : i.zero = some (.agg z))
    (hall : ∀ f ∈ fs.toList, (P.info? f.type).isSome = true) (hps : parts.toList.mapM (fun p => (fs[p.1]?).bind fun f => (P.info? f.type).map fun i => (f.offset, i.size, opd p.2)) = some ps)
    (h : run s o.dst K (.build (litD (.agg z)).cells ps)) : Good P s o a w M K := by
  simp only [run] at h
  have hpl : fs.toList.mapM (fun f => (P.info? f.type).map fun i => (f.offset, i.size)) = some (fs.toList.map fun f => (f.offset, P.cellsOf f.type)) :=
    mapM_some fun f hf => by
      obtain ⟨i, hi⟩ := Option.isSome_iff_exists.1 (hall f hf)
      simp [hi, Program.cellsOf]
  have hforall : Two (fun (p : Nat × Operand) (q : Nat × Nat × Opd) => ((fs.toList.map fun f => (f.offset, P.cellsOf f.type)).toArray[p.1]?) = some (q.1, q.2.1) ∧ q.2.2 = opd p.2) parts.toList ps :=
    forall_mapM (fun p q hq => by
      cases hf : fs[p.1]? with
      | none => simp [hf] at hq
      | some f =>
        cases hfi : P.info? f.type with
        | none => simp [hf, hfi] at hq
        | some fi =>
          simp [hf, hfi] at hq
          subst hq
          simp [hf, Program.cellsOf, hfi]) hps
  obtain ⟨cs', C', h1, h2, h3⟩ := fill_rep hs parts.toList ps hforall _ _ _ (litD_cells w M (.agg z)) h
  have hb : P.built t (parts.map fun p => (p.1, a.eval p.2)).toList = some C' := by
    simp only [Program.built, hi, ht, hz, hpl]
    rw [Array.toList_map]
    exact h1
  exact good_same hs (v := .agg C') (by simp [execOp, ho, run_build w t _ C' hb]) (.agg _ _ h2.1 h2.2) h3

theorem sound_build_array {t e : TypeId} {n : Nat} {parts : Array (Nat × Operand)} {i ie : TypeInfo} {z : Array Value} (hs : SimA s a w M) (ho : o.op = .build t parts) (ht : P.underlying t = some (.array n e)) (hi : P.info? t = some i) (hz : i.zero = some (.agg z)) (hie : P.info? e = some ie)
    (h : run s o.dst K (.build (litD (.agg z)).cells (parts.toList.map fun p => (p.1 * ie.size, ie.size, opd p.2)))) : Good P s o a w M K := by
  simp only [run] at h
  obtain ⟨cs', C', h1, h2, h3⟩ := fill_rep (place := fun i => some (i * ie.size, ie.size)) hs parts.toList _ (forall_map (fun p => ⟨rfl, rfl⟩) _) _ _ _ (litD_cells w M (.agg z)) h
  have hb : P.built t (parts.map fun p => (p.1, a.eval p.2)).toList = some C' := by
    simp only [Program.built, hi, ht, hz, hie]
    simpa using h1
  exact good_same hs (v := .agg C') (by simp [execOp, ho, run_build w t _ C' hb]) (.agg _ _ h2.1 h2.2) h3

theorem sound_buildSlice {t e : TypeId} {len : Nat} {parts : Array (Nat × Operand)} {i : TypeInfo} {z : Value} (hs : SimA s a w M) (ho : o.op = .buildSlice t len parts) (ht : P.underlying t = some (.slice e)) (hi : P.info? e = some i) (hz : i.zero = some z) (hzs : z.cells.size = i.size) (h0 : i.size ≠ 0) (hlim : len * i.size ≤ 16777216)
    (h : run s o.dst K (.buildSlice i.size (litD z).cells len (parts.toList.map fun p => (p.1 * i.size, i.size, opd p.2)))) : Good P s o a w M K := by
  simp only [run] at h
  have hrep0 : RepC w M (List.replicate len (litD z).cells).flatten ((Array.range (len * i.size)).map fun i => z.cells[i % z.cells.size]!) := by
    refine ⟨by rw [flat_len, ← (litD_cells w M z).1, hzs]; simp, fun j d v hd hv => ?_⟩
    obtain ⟨u, hu, hr⟩ := zeros_rep w M z (by omega) len (len * i.size) (by rw [hzs]; exact Nat.le_refl _) j d hd
    rw [hu] at hv; injection hv with hv; subst hv; exact hr
  obtain ⟨cs', C', h1, h2, h3⟩ := fill_rep (place := fun j => some (j * i.size, i.size)) hs parts.toList _ (forall_map (fun p => ⟨rfl, rfl⟩) _) _ _ _ hrep0 h
  obtain ⟨t', ht', hlt, hnv, hQ⟩ := new_spec h3
  have hfillsize : ∀ (ps : List (Nat × Value)) (C C' : Array Value), Instr.fill (fun j => some (j * i.size, i.size)) C ps = some C' → C'.size = C.size := by
    intro ps
    induction ps with
    | nil => intro C C' h; simp [Instr.fill] at h; rw [h]
    | cons p ps ih =>
      intro C C' h
      simp only [Instr.fill] at h
      split at h
      · cases h
      · rw [ih _ _ h, ← Array.foldl_toList]
        have hsz : ∀ (l : List (Value × Nat)) (C : Array Value), (l.foldl (fun cs (x : Value × Nat) => cs.setIfInBounds (p.1 * i.size + x.2) x.1) C).size = C.size := by
          intro l
          induction l with
          | nil => intro C; rfl
          | cons x l ihl => intro C; simp only [List.foldl_cons]; rw [ihl]; simp
        exact hsz _ _
  have hCs : C'.size = len * i.size := by rw [hfillsize _ _ _ h1]; simp
  have hrun : (execOp a.eval o).run P w = .ok (.value (.slice (some ⟨w.heap.size, 0, none⟩) len len)) (w.alloc (.cells C' e)) := by
    have hlim' : ¬ (16777216 < len * i.size) := by omega
    by_cases hl0 : len * i.size = 0
    · rw [hl0, range0] at h1
      have hl0' : len = 0 := by
        rcases Nat.mul_eq_zero.1 hl0 with h | h
        · exact h
        · exact absurd h h0
      subst hl0'
      simp [execOp, ho, Instr.buildSlice, run_underlying ht, run_sizeOf w hi, newRow, range0]
      rw [h1]
      simp
    · have hl1 : ¬ (len = 0) := by rintro rfl; simp at hl0
      simp [execOp, ho, Instr.buildSlice, run_underlying ht, run_sizeOf w hi, hlim', hl0, run_zero w hi hz, newRow]
      rw [h1]
      simp
  obtain ⟨hst, hsim⟩ := sim_new (w' := w.alloc (.cells C' e)) hs.sim (s.n + t') hnv C' e rfl cs' (Nat.le_of_eq h2.1.symm) h2.ex
  refine ⟨_, _, _, _, _, hQ, inr_new hlt, .inl hrun, hst, hsim, .ref _ _ _ _ _ _ (by simp [updM]) (fun _ => ?_) ⟨_, _, _, rfl⟩⟩
  simp only [updM, if_true]
  refine .inr ⟨len, rfl, Nat.le_refl _, fun C1 e' fr' hc' => ?_⟩
  simp only [World.alloc, Array.getElem?_push_size, Option.some.injEq, Obj.cells.injEq] at hc'
  rw [← hc'.1, hCs]
  simp

end Abs
end Go.Proofs.Ytokdeeagghhliaa

namespace Go.Proofs.Ytokdeeagghhliaa
namespace Abs
variable {P : Program} {s : St} {o : Oper} {a : Act} {w : World} {M : Ctx} {K : D → Chg → Prop}

/-- what an append reads -/
structure Src (w : World) (M : Ctx) (m sz : Nat) (news : List D) (v : Value) : Prop where
  len : news.length = m * sz
  src : ∃ (p : Option Addr) (c : Nat) (vals : List Value), v = .slice p m c ∧ vals.length = m * sz ∧ (∀ (j : Nat) (d : D) (u : Value), news[j]? = some d → vals[j]? = some u → Rep w M d u) ∧
    ((m = 0) ∨ ∃ ad, p = some ad ∧ ∀ (j : Nat) (u : Value), vals[j]? = some u → w.cell? (ad.add j) = some u)

theorem flatMap_len {l : List D} {sz : Nat} (h : ∀ x ∈ l, x.cells.length = sz) : (l.flatMap D.cells).length = l.length * sz := by
  induction l with
  | nil => simp
  | cons x l ih =>
    simp only [List.flatMap_cons, List.length_append, List.length_cons, Nat.add_mul]
    rw [h x (by simp), ih fun y hy => h y (by simp [hy])]
    omega

theorem flatMap_get {sz : Nat} (h0 : sz ≠ 0) : ∀ {l : List D} (_ : ∀ x ∈ l, x.cells.length = sz) (j : Nat) (d : D), (l.flatMap D.cells)[j]? = some d → ∃ x, l[j / sz]? = some x ∧ x.cells[j % sz]? = some d
  | [], _, j, d, hd => by simp at hd
  | x :: l, h, j, d, hd => by
    have hx := h x (by simp)
    simp only [List.flatMap_cons] at hd
    by_cases hj : j < sz
    · rw [List.getElem?_append_left (by omega)] at hd
      rw [Nat.div_eq_of_lt hj, Nat.mod_eq_of_lt hj]
      exact ⟨x, by simp, hd⟩
    · rw [List.getElem?_append_right (by omega), hx] at hd
      obtain ⟨y, hy, hd'⟩ := flatMap_get h0 (fun z hz => h z (by simp [hz])) (j - sz) d hd
      have h1 : j / sz = (j - sz) / sz + 1 := by
        rw [Nat.div_eq_sub_div (by omega) (by omega)]
      have h2 : (j - sz) % sz = j % sz := by
        have := Nat.add_mod_right (j - sz) sz
        rw [Nat.sub_add_cancel (by omega)] at this
        exact this.symm
      rw [h1, ← h2]
      exact ⟨y, by simpa using hy, hd'⟩

theorem src_spec (hs : SimA s a w M) {y : Operand} {sz : Nat} (h0 : sz ≠ 0) {Q : Nat → List D → Prop} (h : srcOf s sz (s.val (opd y)) Q) : ∃ m news, Src w M m sz news (a.eval y) ∧ Q m news := by
  have hy := val_rep hs y
  generalize a.eval y = v at hy
  unfold srcOf at h
  split at h
  · rename_i hv
    rw [hv] at hy
    cases hy with
    | nils => exact ⟨0, [], ⟨by simp, none, 0, [], rfl, by simp, by simp, .inl rfl⟩, h⟩
  · rename_i hv
    rw [hv] at hy
    cases hy with
    | emp p => exact ⟨0, [], ⟨by simp, p, 0, [], rfl, by simp, by simp, .inl rfl⟩, h⟩
  · rename_i l hv
    rw [hv] at hy
    obtain ⟨hcs, hQ⟩ := h
    refine ⟨_, _, ⟨flatMap_len hcs, ?_⟩, hQ⟩
    cases hy with
    | lst0 p c => exact ⟨p, c, [], rfl, by simp, by simp, .inl rfl⟩
    | lst _ ad c sz' u hcc hsp hb hlive hsz hcell hr =>
      by_cases hl : l = []
      · subst hl; exact ⟨_, c, [], rfl, by simp, by simp, .inl rfl⟩
      have hszi : sz' = sz := by
        obtain ⟨x, hx⟩ := List.exists_mem_of_ne_nil l hl
        rw [← hsz x hx, hcs x hx]
      subst hszi
      refine ⟨_, c, (List.range (l.length * sz')).map fun j => u (j / sz') (j % sz'), rfl, by simp, fun j d v hd hv => ?_, .inr ⟨ad, rfl, fun j v hv => ?_⟩⟩
      · obtain ⟨x, hx, hd'⟩ := flatMap_get h0 hcs j d hd
        have hj : j < l.length * sz' := by rw [← flatMap_len hcs]; exact (List.getElem?_eq_some_iff.1 hd).1
        simp [hj] at hv
        rw [← hv]
        exact hr _ x hx _ d hd'
      · have hj : j < l.length * sz' := by simpa using (List.getElem?_eq_some_iff.1 hv).1
        simp [hj] at hv
        have hdiv : j / sz' < l.length := (Nat.div_lt_iff_lt_mul (by omega)).2 hj
        have hx := nth_get hdiv
        have hmod : j % sz' < (nth l (j / sz')).cells.length := by rw [hcs _ (List.mem_of_getElem? hx)]; exact Nat.mod_lt _ (by omega)
        have := hcell _ _ hx _ _ (nth_get hmod)
        rw [Nat.mul_comm, Nat.div_add_mod] at this
        rw [← hv]
        exact this
  · rename_i sz' b ver off len hv
    rw [hv] at hy
    obtain ⟨rfl, hat⟩ := h
    obtain ⟨cs, hb, hfit, hQ⟩ := at_spec hat
    have hM1 := hs.sim.ver b
    have hM2 := hs.sim.con b
    rw [hb] at hM1 hM2
    have hlen : ((cs.drop off).take (len * sz')).length = len * sz' := by simp; omega
    refine ⟨_, _, ⟨hlen, ?_⟩, hQ⟩
    cases hy with
    | ref _ _ _ _ _ _ hle hp hv' =>
      have hp' := hp hM1
      rcases hM2 with ⟨a', hloc, hcs⟩ | ⟨c, base, C, e', hloc, hc, hsz, hrep⟩
      · rw [hloc] at hp'
        obtain ⟨_, h2, h3⟩ := hp'
        subst h2; subst h3
        exact ⟨_, _, [], rfl, by simp, by simp, .inl rfl⟩
      · rw [hloc] at hp'
        rcases hp' with ⟨h2, p, h3⟩ | ⟨cap, h3, _⟩
        · subst h2; subst h3
          exact ⟨_, _, [], rfl, by simp, by simp, .inl rfl⟩
        · subst h3
          have hex : ∀ j, ∃ v, j < len * sz' → C[base + (off + j)]? = some v ∧ Rep w M (nth cs (off + j)) v := fun j => by
            by_cases hj : j < len * sz'
            · obtain ⟨v, h1, h2⟩ := hrep (off + j) _ (nth_get (by omega))
              exact ⟨v, fun _ => ⟨h1, h2⟩⟩
            · exact ⟨undef, fun h => absurd h hj⟩
          let f : Nat → Value := fun j => Classical.choose (hex j)
          have hf : ∀ j, j < len * sz' → C[base + (off + j)]? = some (f j) ∧ Rep w M (nth cs (off + j)) (f j) := fun j hj => Classical.choose_spec (hex j) hj
          refine ⟨_, _, (List.range (len * sz')).map f, rfl, by simp, fun j d v hd hv => ?_, .inr ⟨_, rfl, fun j v hv => ?_⟩⟩
          · have hj : j < len * sz' := by rw [← hlen]; exact (List.getElem?_eq_some_iff.1 hd).1
            have hv2 : v = f j := by simpa [hj] using hv.symm
            have hd2 : d = nth cs (off + j) := by
              rw [List.getElem?_take, if_pos hj, List.getElem?_drop, nth_get (by omega)] at hd
              exact (Option.some.inj hd).symm
            rw [hv2, hd2]
            exact (hf j hj).2
          · have hj : j < len * sz' := by simpa using (List.getElem?_eq_some_iff.1 hv).1
            have hv2 : v = f j := by simpa [hj] using hv.symm
            rw [hv2, Addr.lit_add]
            have := (hf j hj).1
            simp only [World.cell?, hc]
            rw [Nat.add_assoc]
            simpa using this
  · exact h.elim

/-- the builtin's run where there is room -/
theorem run_append_fit {t ty e : TypeId} {i : TypeInfo} (ht : P.underlying t = some (.slice e)) (hi : P.info? e = some i) {g o len cap : Nat} {cur : Array Value} {e' : TypeId} (hg : w.heap[g]? = some (.cells cur e' (0, 0)))
    {p : Option Addr} {m c : Nat} {vals : List Value} (_hl : vals.length = m * i.size) (hfc : (Builtin.firstCells i.size m (.slice p m c)).run P w = .ok vals.toArray w) (h1 : ∀ u ∈ vals, u.oneCell' = true)
    (hroom : len + m ≤ cap) (hfit : o + len * i.size + vals.length ≤ cur.size) :
    (Builtin.append_ #[t, t] ty #[.slice (some ⟨g, o, none⟩) len cap, .slice p m c]).run P w =
      .ok (.slice (some ⟨g, o, none⟩) (len + m) cap) (w.setRow g (cur.toList.take (o + len * i.size) ++ vals ++ cur.toList.drop (o + len * i.size + vals.length)).toArray) := by
  have hst := run_storeCells_at P g (o + len * i.size) e' vals 0 cur w hg (by simpa using hfit) h1
  simp only [Nat.add_zero] at hst
  simp [Builtin.append_, run_underlying ht, sizeOf, typeInfo, hi, Builtin.lenOf, hroom, hfc, Addr.lit_add, hst]

theorem run_append_new {t ty e : TypeId} {i : TypeInfo} {z : Value} (ht : P.underlying t = some (.slice e)) (hi : P.info? e = some i) (hz : i.zero = some z)
    {q : Option Addr} {len cap : Nat} {olds : List Value} (holds : (Builtin.firstCells i.size len (.slice q len cap)).run P w.drew = .ok olds.toArray w.drew)
    {p : Option Addr} {m c : Nat} {vals : List Value} (hfc : (Builtin.firstCells i.size m (.slice p m c)).run P w.drew = .ok vals.toArray w.drew)
    (hg : cap < len + m) (h63 : ((len + m : Nat) : Int) ≤ 9223372036854775807) (hfit : Builtin.nextslicecap (len + m) cap * i.bytes ≤ 281474976710656) :
    (Builtin.append_ #[t, t] ty #[.slice q len cap, .slice p m c]).run P w =
      .ok (.slice (some ⟨w.heap.size, 0, none⟩) (len + m) (grownCap w (len + m) cap e))
        (w.drew.alloc (.cells (olds ++ vals ++ (Builtin.zeroCells z.cells (grownCap w (len + m) cap e - (len + m))).toList).toArray e)) := by
  have hn : ¬ (len + m ≤ cap) := by omega
  have h63' : ¬ (9223372036854775807 < ((len : Int) + (m : Int))) := by omega
  have h48' : ¬ (281474976710656 < Builtin.nextslicecap (len + m) cap * i.bytes) := by omega
  simp [Builtin.append_, run_underlying ht, sizeOf, typeInfo, zeroValue, hi, hz, Builtin.lenOf, hn, h63', h48', Question.forced, hfc, holds, newRow, grownCap]
  congr 2
  apply Array.ext'
  simp

theorem run_append_zeros {t tn ty e : TypeId} {i : TypeInfo} {z : Value} {kq kn : IntKind} (ht : P.underlying t = some (.slice e)) (htn : P.underlying tn = some (.int kn)) (hi : P.info? e = some i) (hz : i.zero = some z)
    {q : Option Addr} {k : Nat} (h0 : 0 < k) (hs : 0 < i.size) (h63 : (k : Int) ≤ 9223372036854775807) (h48 : k * i.bytes ≤ 281474976710656) (hfit : Builtin.nextslicecap k 0 * i.bytes ≤ 281474976710656) :
    (Builtin.append_ #[t, tn] ty #[.slice q 0 0, .int kq k]).run P w =
      .ok (.slice (some ⟨w.heap.size, 0, none⟩) k (grownCap w k 0 e)) (w.drew.alloc (.cells (Builtin.zeroCells z.cells k ++ Builtin.zeroCells z.cells (grownCap w k 0 e - k)) e)) := by
  have hold : (Builtin.firstCells i.size 0 (.slice q 0 0)).run P w.drew = .ok (#[] : Array Value) w.drew := by
    cases q with
    | none => simp [Builtin.firstCells]
    | some ad => exact run_firstCells_some (P := P) w.drew i.size 0 ad 0 0 [] (by simp) (by simp)
  have hk : k ≠ 0 := by omega
  have hw : IntKind.i64.wrap (k : Int) = k := by rw [IntKind.wrap_i64]; omega
  have h63' : ¬ (9223372036854775807 < (k : Int)) := by omega
  have h48' : ¬ (281474976710656 < Builtin.nextslicecap k 0 * i.bytes) := by omega
  have h48i : ¬ (281474976710656 < (k : Int) * (i.bytes : Int)) := by
    rw [← Int.natCast_mul]
    omega
  have hneg : ¬ ((k : Int) < 0) := by omega
  have hns : ¬ (k * i.size = 0) := Nat.mul_ne_zero hk (by omega)
  simp [Builtin.append_, run_underlying ht, run_underlying htn, sizeOf, typeInfo, zeroValue, hi, hz, asInt, asIntOf, hw, hneg, hns, hk, h63', h48', h48i, Question.forced, hold, newRow, grownCap]

theorem firstCells_src {m sz : Nat} {p : Option Addr} {c : Nat} {vals : List Value} (hl : vals.length = m * sz) {w' : World} (hw : ∀ x, w'.cell? x = w.cell? x)
    (hp : (m = 0) ∨ ∃ ad, p = some ad ∧ ∀ (j : Nat) (u : Value), vals[j]? = some u → w.cell? (ad.add j) = some u) : (Builtin.firstCells sz m (.slice p m c)).run P w' = .ok vals.toArray w' := by
  rcases hp with rfl | ⟨ad, rfl, hc⟩
  · have : vals = [] := List.eq_nil_of_length_eq_zero (by simpa using hl)
    subst this
    cases p with
    | none => simp [Builtin.firstCells]
    | some ad => exact run_firstCells_some (P := P) w' sz 0 ad 0 c [] (by simp) (by simp)
  · exact run_firstCells_some (P := P) w' sz m ad m c vals hl (fun j u hu => by rw [hw]; exact hc j u hu)

set_option maxHeartbeats 1000000 in
theorem sound_append {t e : TypeId} {x y : Operand} {i : TypeInfo} {z : Value} {c : Call} (hs : SimA s a w M) (ho : o.op = .call c) (hc : c.callee = .builtin .append) (hargs : c.args.toList = [x, y]) (htys : c.argTypes.toList = [t, t])
    (ht : P.underlying t = some (.slice e)) (hi : P.info? e = some i) (hz : i.zero = some z) (hzs : z.cells.size = i.size) (h0 : i.size ≠ 0) (hb0 : i.bytes ≠ 0)
    (h : run s o.dst K (.append i.size i.bytes (opd x) (opd y))) : Good P s o a w M K := by
  have hargs' : c.args = #[x, y] := by rw [← hargs]
  have htys' : c.argTypes = #[t, t] := by rw [← htys]
  simp only [run] at h
  have hx := val_rep hs x
  obtain ⟨m, news, hsrc, hone, h⟩ := src_spec hs h0 h
  obtain ⟨hnl, p, cp, vals, hvy, hvl, hvr, hvp⟩ := hsrc
  have hexec : ∀ u v' w', a.eval x = u → (Builtin.append_ #[t, t] o.type #[u, a.eval y]).run P w = .ok v' w' → (execOp a.eval o).run P w = .ok (.value v') w' := by
    intro u v' w' hu hr
    simp [execOp, ho, resolve, hc, hargs', htys', invoke, builtin, hu, hr]
  have hvone : ∀ u ∈ vals, u.oneCell' = true := fun u hu => by
    obtain ⟨j, hj⟩ := List.mem_iff_getElem?.1 hu
    have hj' : j < news.length := by rw [hnl, ← hvl]; exact (List.getElem?_eq_some_iff.1 hj).1
    exact rep_one (hvr j _ u (nth_get hj') hj) (hone _ (List.mem_of_getElem? (nth_get hj')))
  have hfc := firstCells_src (P := P) (w := w) (w' := w) (c := cp) (sz := i.size) hvl (fun _ => rfl) hvp
  have hfcd := firstCells_src (P := P) (w := w) (w' := w.drew) (c := cp) (sz := i.size) hvl (fun _ => rfl) hvp
  have hnews : ∀ (j : Nat) (d : D), news[j]? = some d → ∃ v, vals[j]? = some v ∧ Rep w M d v := fun j d hd => by
    have hj : j < vals.length := by rw [hvl, ← hnl]; exact (List.getElem?_eq_some_iff.1 hd).1
    exact ⟨vals[j], by simp [hj], hvr j d _ hd (by simp [hj])⟩
  -- into a slice without room
  have empty : ∀ (q : Option Addr) (b : Nat), (s.hp b).con.isOpq = false → a.eval x = .slice q 0 0 → m * i.bytes ≤ 140737488355328 →
      ∃ v' w' M', (execOp a.eval o).run P w = .ok (.value v') w' ∧ Step w M w' M' ∧ Sim w' M' (upd s.hp b ⟨(s.hp b).ver + 1, .cells news⟩) ∧ Rep w' M' (.ref i.size b ((s.hp b).ver + 1) 0 m) v' := by
    intro q b hnv hv hbytes
    by_cases hm : m = 0
    · subst hm
      have hn0 : news = [] := List.eq_nil_of_length_eq_zero (by simpa using hnl)
      have hv0 : vals = [] := List.eq_nil_of_length_eq_zero (by simpa using hvl)
      subst hn0
      subst hv0
      have hrun : (Builtin.append_ #[t, t] o.type #[.slice q 0 0, a.eval y]).run P w = .ok (.slice q 0 0) w := by
        rw [hvy]
        cases q <;> simp [Builtin.append_, run_underlying ht, sizeOf, typeInfo, hi, Builtin.lenOf, hfc, storeCells]
      obtain ⟨h1, h2⟩ := sim_nil (w' := w) hs.sim b hnv q rfl ((s.hp b).ver + 1) (Nat.lt_succ_self _)
      exact ⟨_, w, _, hexec _ _ _ hv hrun, h1, h2, .ref _ _ _ _ _ _ (by simp [updM]) (fun _ => by simp [updM, RefOk]) ⟨_, _, _, rfl⟩⟩
    · have hm2 : m ≤ m * i.bytes := Nat.le_mul_of_pos_right _ (by omega)
      have hold : (Builtin.firstCells i.size 0 (.slice q 0 0)).run P w.drew = .ok ([] : List Value).toArray w.drew :=
        firstCells_src (P := P) (w := w) (vals := []) (by simp) (fun _ => rfl) (.inl rfl)
      have hrun := run_append_new (ty := o.type) ht hi hz hold hfcd (by omega) (by omega) (by simpa using growslice_fits (by omega) (by simpa using hbytes))
      rw [← hvy] at hrun
      simp only [Nat.zero_add, List.nil_append] at hrun
      have hgc := grownCap_ge w m 0 e
      have hCs : (vals ++ (Builtin.zeroCells z.cells (grownCap w m 0 e - m)).toList).toArray.size = grownCap w m 0 e * i.size := by
        simp only [List.size_toArray, List.length_append, Array.length_toList, size_zeroCells, hvl, hzs, ← Nat.add_mul]
        congr 1; omega
      have hmsz : m * i.size ≤ grownCap w m 0 e * i.size := Nat.mul_le_mul_right _ hgc
      obtain ⟨h1, h2⟩ := sim_new (w' := w.drew.alloc (.cells (vals ++ (Builtin.zeroCells z.cells (grownCap w m 0 e - m)).toList).toArray e)) hs.sim b hnv _ e rfl news (by rw [hCs, hnl]; exact hmsz) (fun j d hd => by
        obtain ⟨v, hv1, hv2⟩ := hnews j d hd
        exact ⟨v, by
          have hj := (List.getElem?_eq_some_iff.1 hv1).1
          simp only [List.getElem?_toArray]
          rw [List.getElem?_append_left hj]; exact hv1, hv2⟩)
      refine ⟨_, _, _, hexec _ _ _ hv hrun, h1, h2, .ref _ _ _ _ _ _ (by simp [updM]) (fun _ => ?_) ⟨_, _, _, rfl⟩⟩
      simp only [updM, if_true]
      refine .inr ⟨grownCap w m 0 e, rfl, hgc, fun C1 e' fr' hc' => ?_⟩
      have hsz : (w.drew.alloc (.cells (vals ++ (Builtin.zeroCells z.cells (grownCap w m 0 e - m)).toList).toArray e)).heap[w.heap.size]? = some (.cells (vals ++ (Builtin.zeroCells z.cells (grownCap w m 0 e - m)).toList).toArray e (0, 0)) := by
        show (w.heap.push _)[w.heap.size]? = _
        simp
      rw [hsz] at hc'
      injection hc' with hc'; injection hc' with hc' _ _
      rw [← hc', hCs]
      omega
  split at h
  · rename_i hv
    rw [hv] at hx
    generalize hve : a.eval x = v at hx
    cases hx with
    | nils =>
      obtain ⟨hbytes, hnew⟩ := h
      obtain ⟨t', ht', hlt, hnv, hQ⟩ := new_spec hnew
      obtain ⟨v', w', M', hrun, h1, h2, h3⟩ := empty none (s.n + t') hnv hve hbytes
      exact ⟨v', w', _, _, M', hQ, inr_new hlt, .inl hrun, h1, h2, h3⟩
  · rename_i hv
    rw [hv] at hx
    generalize hve : a.eval x = v at hx
    cases hx with
    | emp q =>
      obtain ⟨hbytes, hnew⟩ := h
      obtain ⟨t', ht', hlt, hnv, hQ⟩ := new_spec hnew
      obtain ⟨v', w', M', hrun, h1, h2, h3⟩ := empty q (s.n + t') hnv hve hbytes
      exact ⟨v', w', _, _, M', hQ, inr_new hlt, .inl hrun, h1, h2, h3⟩
  · rename_i sz' b ver off len hv
    rw [hv] at hx
    obtain ⟨rfl, hat⟩ := h
    obtain ⟨cs, hb, hfit, hbytes, hK⟩ := at_spec hat
    have hnv : (s.hp b).con.isOpq = false := by rw [hb]; rfl
    have hir : ∀ x, s.inr [(b, x)] := fun x => inr_old (by rw [hb]; simp)
    have hM1 := hs.sim.ver b
    have hM2 := hs.sim.con b
    rw [hb] at hM1 hM2
    have hver : (s.hp b).ver = ver := by rw [hb]
    generalize hve : a.eval x = v at hx
    cases hx with
    | ref _ _ _ _ _ _ hle hp hv' =>
      have hp' := hp hM1
      have fromEmpty : ∀ q, v = .slice q 0 0 → len = 0 → Good P s o a w M K := by
        intro q hvq hl0
        subst hvq
        subst hl0
        obtain ⟨v', w', M', hrun, h1, h2, h3⟩ := empty q b hnv hve (by simpa using hbytes)
        rw [hver] at h2 h3
        simp only [Nat.zero_mul, List.take_zero, List.nil_append, Nat.zero_add] at hK
        exact ⟨v', w', _, _, M', hK, hir _, .inl hrun, h1, h2, h3⟩
      rcases hM2 with ⟨a', hloc, hcs⟩ | ⟨cb, base, C, e', hloc, hcc, hsz, hrep⟩
      · rw [hloc] at hp'
        exact fromEmpty a' hp'.2.2 hp'.2.1
      · rw [hloc] at hp'
        rcases hp' with ⟨h3, q, h4⟩ | ⟨cap, rfl, hcap, hroom⟩
        · exact fromEmpty q h4 h3
        · have hroomC := hroom C e' (0, 0) hcc
          by_cases hrm : len + m ≤ cap
          · -- in place
            have hlm : (len + m) * i.size ≤ cap * i.size := Nat.mul_le_mul_right _ hrm
            rw [Nat.add_mul] at hlm
            have hrun := run_append_fit (ty := o.type) (vals := vals) (o := base + off) (m := m) (p := p) (c := cp) ht hi hcc hvl hfc hvone hrm (by omega)
            rw [← hvy] at hrun
            have hC' : (C.toList.take (base + off + len * i.size) ++ vals ++ C.toList.drop (base + off + len * i.size + vals.length)).toArray.size = C.size := by
              simp; omega
            obtain ⟨h1, h2⟩ := sim_put (w' := w.setRow cb (C.toList.take (base + off + len * i.size) ++ vals ++ C.toList.drop (base + off + len * i.size + vals.length)).toArray) hs.sim b cb base hnv C _ e' hloc hcc
              (by simp) (fun k hk => setRow_other w cb k _ hk) (setRow_heap w cb C _ e' _ hcc) hC' (ver + 1) (base + off) ((cs.drop off).take (len * i.size) ++ news) (.inr (by rw [hver]; exact Nat.lt_succ_self _))
              (by simp only [List.length_append, List.length_take, List.length_drop, hnl]; omega) (fun j d hd => by
                have hl1 : ((cs.drop off).take (len * i.size)).length = len * i.size := by simp; omega
                have hmin : min (base + off + len * i.size) C.toList.length = base + off + len * i.size := by simp; omega
                simp only [List.getElem?_toArray]
                by_cases hj : j < len * i.size
                · rw [List.getElem?_append_left (by omega), List.getElem?_take, if_pos hj, List.getElem?_drop] at hd
                  obtain ⟨v, hv1, hv2⟩ := hrep _ d hd
                  refine ⟨v, ?_, hv2⟩
                  rw [List.append_assoc, List.getElem?_append_left (by simp; omega), List.getElem?_take, if_pos (by omega)]
                  rw [show base + off + j = base + (off + j) by omega]
                  simpa using hv1
                · rw [List.getElem?_append_right (by omega), hl1] at hd
                  obtain ⟨v, hv1, hv2⟩ := hnews _ d hd
                  have hlt := (List.getElem?_eq_some_iff.1 hv1).1
                  refine ⟨v, ?_, hv2⟩
                  rw [List.getElem?_append_left (by simp; omega), List.getElem?_append_right (by simp; omega)]
                  have e1 : base + off + j - (C.toList.take (base + off + len * i.size)).length = j - len * i.size := by simp; omega
                  rw [e1]; exact hv1)
            refine ⟨_, _, _, _, _, hK, hir _, .inl (hexec _ _ _ hve hrun), h1, h2, .ref _ _ _ _ _ _ (by simp [updM]) (fun _ => ?_) ⟨_, _, _, rfl⟩⟩
            simp only [updM, if_true]
            refine .inr ⟨cap, rfl, hrm, fun C1 e1 fr1 hc1 => ?_⟩
            rw [setRow_heap w cb C _ e' _ hcc] at hc1
            injection hc1 with hc1; injection hc1 with hc1 _ _
            rw [← hc1, hC']
            omega
          · -- a new array
            have hm2 : len + m ≤ (len + m) * i.bytes := Nat.le_mul_of_pos_right _ (by omega)
            have hex : ∀ j, ∃ v, j < len * i.size → C[base + (off + j)]? = some v ∧ Rep w M (nth cs (off + j)) v := fun j => by
              by_cases hj : j < len * i.size
              · obtain ⟨v, h1, h2⟩ := hrep (off + j) _ (nth_get (by omega))
                exact ⟨v, fun _ => ⟨h1, h2⟩⟩
              · exact ⟨undef, fun h => absurd h hj⟩
            let f : Nat → Value := fun j => Classical.choose (hex j)
            have hf : ∀ j, j < len * i.size → C[base + (off + j)]? = some (f j) ∧ Rep w M (nth cs (off + j)) (f j) := fun j hj => Classical.choose_spec (hex j) hj
            have hold : (Builtin.firstCells i.size len (.slice (some ⟨cb, base + off, none⟩) len cap)).run P w.drew = .ok ((List.range (len * i.size)).map f).toArray w.drew := by
              refine run_firstCells_some (P := P) w.drew i.size len _ len cap _ (by simp) fun j v hv => ?_
              have hj : j < len * i.size := by simpa using (List.getElem?_eq_some_iff.1 hv).1
              have hv2 : v = f j := by simpa [hj] using hv.symm
              rw [hv2, Addr.lit_add]
              have := (hf j hj).1
              show w.cell? _ = _
              simp only [World.cell?, hcc]
              rw [Nat.add_assoc]
              simpa using this
            have hrun := run_append_new (ty := o.type) ht hi hz hold hfcd (by omega) (by omega) (growslice_fits (by omega) hbytes)
            rw [← hvy] at hrun
            have hgc := grownCap_ge w (len + m) cap e
            have hCs : ((List.range (len * i.size)).map f ++ vals ++ (Builtin.zeroCells z.cells (grownCap w (len + m) cap e - (len + m))).toList).toArray.size = grownCap w (len + m) cap e * i.size := by
              simp only [List.size_toArray, List.length_append, Array.length_toList, size_zeroCells, hvl, hzs, List.length_map, List.length_range, ← Nat.add_mul]
              congr 1; omega
            have hmsz : (len + m) * i.size ≤ grownCap w (len + m) cap e * i.size := Nat.mul_le_mul_right _ hgc
            have hl1 : ((cs.drop off).take (len * i.size)).length = len * i.size := by simp; omega
            obtain ⟨h1, h2⟩ := sim_new (w' := w.drew.alloc (.cells ((List.range (len * i.size)).map f ++ vals ++ (Builtin.zeroCells z.cells (grownCap w (len + m) cap e - (len + m))).toList).toArray e)) hs.sim b hnv _ e rfl
              ((cs.drop off).take (len * i.size) ++ news) (by rw [hCs, List.length_append, hl1, hnl, ← Nat.add_mul]; exact hmsz) (fun j d hd => by
                simp only [List.getElem?_toArray]
                by_cases hj : j < len * i.size
                · rw [List.getElem?_append_left (by omega), List.getElem?_take, if_pos hj, List.getElem?_drop, nth_get (by omega)] at hd
                  injection hd with hd
                  refine ⟨f j, ?_, by rw [← hd]; exact (hf j hj).2⟩
                  rw [List.append_assoc, List.getElem?_append_left (by simpa using hj)]
                  simp [hj]
                · rw [List.getElem?_append_right (by omega), hl1] at hd
                  obtain ⟨v, hv1, hv2⟩ := hnews _ d hd
                  have hlt := (List.getElem?_eq_some_iff.1 hv1).1
                  refine ⟨v, ?_, hv2⟩
                  rw [List.getElem?_append_left (by simp; omega), List.getElem?_append_right (by simp; omega)]
                  simpa using hv1)
            rw [hver] at h2
            rw [hver] at h1
            refine ⟨_, _, _, _, _, hK, hir _, .inl (hexec _ _ _ hve hrun), h1, h2, .ref _ _ _ _ _ _ (by simp [updM]) (fun _ => ?_) ⟨_, _, _, rfl⟩⟩
            simp only [updM, if_true]
            refine .inr ⟨grownCap w (len + m) cap e, rfl, hgc, fun C1 e1 fr1 hc1 => ?_⟩
            have hszz : (w.drew.alloc (.cells ((List.range (len * i.size)).map f ++ vals ++ (Builtin.zeroCells z.cells (grownCap w (len + m) cap e - (len + m))).toList).toArray e)).heap[w.heap.size]? = some (.cells ((List.range (len * i.size)).map f ++ vals ++ (Builtin.zeroCells z.cells (grownCap w (len + m) cap e - (len + m))).toList).toArray e (0, 0)) := by
              show (w.heap.push _)[w.heap.size]? = _
              simp
            rw [hszz] at hc1
            injection hc1 with hc1; injection hc1 with hc1 _ _
            rw [← hc1, hCs]
            omega
  · exact h.elim

theorem sound_appendz {t tn e : TypeId} {kn : IntKind} {x y : Operand} {i : TypeInfo} {z : Value} {c : Call} (hs : SimA s a w M) (ho : o.op = .call c) (hc : c.callee = .builtin .append) (hargs : c.args.toList = [x, y]) (htys : c.argTypes.toList = [t, tn])
    (ht : P.underlying t = some (.slice e)) (htn : P.underlying tn = some (.int kn)) (hi : P.info? e = some i) (hz : i.zero = some z) (hzs : z.cells.size = i.size) (h0 : i.size ≠ 0) (hb0 : i.bytes ≠ 0)
    (h : run s o.dst K (.appendz i.size i.bytes (litD z).cells (opd x) (opd y))) : Good P s o a w M K := by
  have hargs' : c.args = #[x, y] := by rw [← hargs]
  have htys' : c.argTypes = #[t, tn] := by rw [← htys]
  simp only [run] at h
  have hx := val_rep hs x
  have hy := val_rep hs y
  have main : ∀ (q : Option Addr) (k : Int), a.eval x = .slice q 0 0 → a.eval y = .int .i64 k → 0 < k → k * i.bytes ≤ 140737488355328 →
      (s.new o.dst (.cells (List.replicate k.toNat (litD z).cells).flatten) fun id ver δ => K (.ref i.size id ver 0 k.toNat) δ) → Good P s o a w M K := by
    intro q k hvx hvy hk0 hkb hnew
    obtain ⟨k, rfl⟩ : ∃ m : Nat, k = m := ⟨k.toNat, by omega⟩
    simp only [Int.toNat_natCast] at hnew
    obtain ⟨t', ht', hlt, hnv, hQ⟩ := new_spec hnew
    have hkb' : k * i.bytes ≤ 140737488355328 := by
      have : ((k * i.bytes : Nat) : Int) ≤ 140737488355328 := by rw [Int.natCast_mul]; exact hkb
      omega
    have hm2 : k ≤ k * i.bytes := Nat.le_mul_of_pos_right _ (by omega)
    have hrun := run_append_zeros (w := w) (ty := o.type) (kq := .i64) (q := q) (k := k) ht htn hi hz (by omega) (by omega) (by omega) (by omega) (growslice_fits (by omega) hkb')
    have hexec : (execOp a.eval o).run P w = .ok (.value (.slice (some ⟨w.heap.size, 0, none⟩) k (grownCap w k 0 e))) (w.drew.alloc (.cells (Builtin.zeroCells z.cells k ++ Builtin.zeroCells z.cells (grownCap w k 0 e - k)) e)) := by
      simp [execOp, ho, resolve, hc, hargs', htys', invoke, builtin, hvx, hvy, hrun]
    have hgc := grownCap_ge w k 0 e
    have hCs : (Builtin.zeroCells z.cells k ++ Builtin.zeroCells z.cells (grownCap w k 0 e - k)).size = grownCap w k 0 e * i.size := by
      simp only [Array.size_append, size_zeroCells, hzs, ← Nat.add_mul]
      congr 1; omega
    have hmsz : k * i.size ≤ grownCap w k 0 e * i.size := Nat.mul_le_mul_right _ hgc
    obtain ⟨h1, h2⟩ := sim_new (w' := w.drew.alloc (.cells (Builtin.zeroCells z.cells k ++ Builtin.zeroCells z.cells (grownCap w k 0 e - k)) e)) hs.sim (s.n + t') hnv _ e rfl ((List.replicate k (litD z).cells).flatten)
      (by rw [hCs, flat_len, ← (litD_cells w M z).1, hzs]; exact hmsz) (fun j d hd => by
        obtain ⟨v, hv1, hv2⟩ := zeros_rep w M z (by omega) k (k * z.cells.size) (Nat.le_refl _) j d hd
        refine ⟨v, ?_, hv2⟩
        rw [Array.getElem?_append_left]
        · exact hv1
        · exact (Array.getElem?_eq_some_iff.1 hv1).1)
    refine ⟨_, _, _, _, _, hQ, inr_new hlt, .inl hexec, h1, h2, .ref _ _ _ _ _ _ (by simp [updM]) (fun _ => ?_) ⟨_, _, _, rfl⟩⟩
    simp only [updM, if_true]
    refine .inr ⟨grownCap w k 0 e, rfl, hgc, fun C1 e' fr' hc' => ?_⟩
    have hsz : (w.drew.alloc (.cells (Builtin.zeroCells z.cells k ++ Builtin.zeroCells z.cells (grownCap w k 0 e - k)) e)).heap[w.heap.size]? = some (.cells (Builtin.zeroCells z.cells k ++ Builtin.zeroCells z.cells (grownCap w k 0 e - k)) e (0, 0)) := by
      show (w.heap.push _)[w.heap.size]? = _
      simp
    rw [hsz] at hc'
    injection hc' with hc'; injection hc' with hc' _ _
    rw [← hc', hCs]
    omega
  split at h
  · rename_i k hv hv2
    rw [hv] at hx
    rw [hv2] at hy
    generalize hve : a.eval x = u at hx
    generalize hve2 : a.eval y = u2 at hy
    cases hx
    cases hy
    exact main _ _ hve hve2 h.1 h.2.1 h.2.2
  · rename_i k hv hv2
    rw [hv] at hx
    rw [hv2] at hy
    generalize hve : a.eval x = u at hx
    generalize hve2 : a.eval y = u2 at hy
    cases hx
    cases hy
    exact main _ _ hve hve2 h.1 h.2.1 h.2.2
  · exact h.elim

theorem sound_capz {e : TypeId} {x : Operand} {c : Call} (hs : SimA s a w M) (ho : o.op = .call c) (hc : c.callee = .builtin .cap) (hargs : c.args.toList = [x]) {t : TypeId} (ht1 : c.argTypes[0]? = some t) (ht2 : P.underlying t = some (.slice e))
    (h : run s o.dst K (.capz (opd x))) : Good P s o a w M K := by
  have hargs' : c.args = #[x] := by rw [← hargs]
  simp only [run] at h
  have hx := val_rep hs x
  have hexec : ∀ q, a.eval x = .slice q 0 0 → (execOp a.eval o).run P w = .ok (.value (.int .i64 0)) w := fun q hv => by
    simp [execOp, ho, resolve, hc, hargs', invoke, builtin, hv, Builtin.cap_, ht1, run_underlying ht2, goInt]
  split at h
  · rename_i hv
    rw [hv] at hx
    generalize hve : a.eval x = u at hx
    cases hx
    exact good_same hs (hexec _ hve) (.int ..) h
  · rename_i hv
    rw [hv] at hx
    generalize hve : a.eval x = u at hx
    cases hx
    exact good_same hs (hexec _ hve) (.int ..) h
  · exact h.elim

/-! ### maps whose keys are one whole number, or two -/
theorem intT_spec {e : TypeId} (h : intT P e = true) : ∃ i, P.underlying e = some (.int .i64) ∧ P.info? e = some i ∧ i.size = 1 := by
  unfold intT at h
  split at h
  · rename_i i he hi; exact ⟨i, he, hi, by simpa using h⟩
  · cases h
/-- what a type of keys may be -/
inductive KeyT (P : Program) (k : TypeId) : Nat → Prop
  | one (h : P.underlying k = some (.int .i64)) : KeyT P k 1
  | arr (e : TypeId) (i : TypeInfo) (h : P.underlying k = some (.array 2 e)) (he : P.underlying e = some (.int .i64)) (hi : P.info? e = some i) (h1 : i.size = 1) : KeyT P k 2
  | str (fs : Array Field) (f g : Field) (h : P.underlying k = some (.struct fs)) (hfs : fs.toList = [f, g]) (hf : P.underlying f.type = some (.int .i64)) (hg : P.underlying g.type = some (.int .i64)) (h0 : f.offset = 0) (h1 : g.offset = 1) (n0 : f.name ≠ "_") (n1 : g.name ≠ "_") (hst : P.stoodInHeld k = false) : KeyT P k 2
theorem keyK_spec {k : TypeId} (h : keyK P k ≠ 0) : KeyT P k (keyK P k) := by
  unfold keyK at h ⊢
  split at h
  · rename_i hk; exact .one hk
  · rename_i e hk
    split at h
    · rename_i he
      rw [if_pos he]
      obtain ⟨i, h1, h2, h3⟩ := intT_spec he
      exact .arr e i hk h1 h2 h3
    · exact (h rfl).elim
  · rename_i fs hk
    split at h
    · rename_i f g hfs
      split at h
      · rename_i hc
        rw [if_pos hc]
        simp only [Bool.and_eq_true, beq_iff_eq, bne_iff_ne, ne_eq, Bool.not_eq_true'] at hc
        obtain ⟨⟨⟨⟨⟨⟨c1, c2⟩, c3⟩, c4⟩, c5⟩, c6⟩, c7⟩ := hc
        obtain ⟨_, q1, _, _⟩ := intT_spec c1
        obtain ⟨_, q2, _, _⟩ := intT_spec c2
        exact .str fs f g hk hfs q1 q2 c3 c4 c5 c6 c7
      · exact (h rfl).elim
    · exact (h rfl).elim
  · exact (h rfl).elim
theorem keyD_rep {d : D} {kk : List Int} {v : Value} (hd : keyD d = some kk) (h : Rep w M d v) : keyR kk v := by
  unfold keyD at hd
  split at hd
  · rename_i a
    injection hd with hd; subst hd
    cases h; rfl
  · rename_i a b
    injection hd with hd; subst hd
    cases h with
    | agg _ vs hl hr =>
      have h0 : 0 < vs.size := by simp at hl; omega
      have h1 : 1 < vs.size := by simp at hl; omega
      have r0 := hr 0 _ vs[0] rfl (by simp [h0])
      have r1 := hr 1 _ vs[1] rfl (by simp [h1])
      show Value.agg vs = _
      congr 1
      apply Array.ext
      · simpa using hl
      · intro i hi hi2
        simp at hi2
        have : i = 0 ∨ i = 1 := by simp at hl; omega
        rcases this with rfl | rfl
        · cases hv : vs[0] <;> rw [hv] at r0 <;> cases r0; rfl
        · cases hv : vs[1] <;> rw [hv] at r1 <;> cases r1; rfl
  · cases hd
theorem keyR_cases {kk : List Int} {v : Value} (h : keyR kk v) : (∃ a, kk = [a] ∧ v = .int .i64 a) ∨ ∃ a b, kk = [a, b] ∧ v = .agg #[.int .i64 a, .int .i64 b] := by
  match kk, h with
  | [a], h => exact .inl ⟨a, rfl, h⟩
  | [a, b], h => exact .inr ⟨a, b, rfl, h⟩

theorem run_part2 {e : TypeId} (he : P.underlying e = some (.int .i64)) (cs : Array Value) (j : Nat) (hj : j < cs.size) : (part e cs j).run P w = .ok cs[j] w := by
  have := run_isAgg w he
  simp [part, this, isAggD, hj]

theorem run_checkKey2 {k e : TypeId} {i : TypeInfo} (hk : P.underlying k = some (.array 2 e)) (he : P.underlying e = some (.int .i64)) (hi : P.info? e = some i) (h1 : i.size = 1) (em : Bool) (a b : Int) :
    (Instr.checkKey em 10000 k (.agg #[.int .i64 a, .int .i64 b])).run P w = .ok () w := by
  have hp : ∀ (x : Value) (d : Nat), (Instr.checkKey em (d + 1) e x).run P w = .ok () w := fun x d => by
    rw [Instr.checkKey]
    simp only [Sem.run_bind, run_underlying he, Result.andThen_ok]
    cases x <;> rfl
  rw [show (10000 : Nat) = 9998 + 1 + 1 from rfl, Instr.checkKey]
  simp only [Sem.run_bind, run_underlying hk, Result.andThen_ok]
  simp only [Std.Legacy.Range.forIn_eq_forIn_range', Std.Legacy.Range.size, Nat.sub_zero, Nat.add_one_sub_one, Nat.div_one]
  have p0 := run_part2 (w := w) he #[.int .i64 a, .int .i64 b] 0 (by simp)
  have p1 := run_part2 (w := w) he #[.int .i64 a, .int .i64 b] 1 (by simp)
  simp [List.range', run_sizeOf w hi, h1, p0, p1, hp]

theorem run_equal2 {k e : TypeId} {i : TypeInfo} (hk : P.underlying k = some (.array 2 e)) (he : P.underlying e = some (.int .i64)) (hi : P.info? e = some i) (h1 : i.size = 1) (a b c d : Int) :
    (Op.equal k (.agg #[.int .i64 a, .int .i64 b]) (.agg #[.int .i64 c, .int .i64 d])).run P w = .ok (a == c && b == d) w := by
  have hq : ∀ (x y : Int) (n : Nat), (Op.equalIn (n + 1) e (.int .i64 x) (.int .i64 y)).run P w = .ok (x == y) w := fun x y n => by
    simp [Op.equalIn, run_underlying he]
  rw [Op.equal, show Op.maxDepth = 9998 + 1 + 1 from rfl, Op.equalIn]
  simp only [Sem.run_bind, run_underlying hk, Result.andThen_ok, run_sizeOf w hi, h1]
  simp only [Std.Legacy.Range.forIn_eq_forIn_range', Std.Legacy.Range.size, Nat.sub_zero, Nat.add_one_sub_one, Nat.div_one]
  have p0 := run_part2 (w := w) he #[.int .i64 a, .int .i64 b] 0 (by simp)
  have p1 := run_part2 (w := w) he #[.int .i64 a, .int .i64 b] 1 (by simp)
  have q0 := run_part2 (w := w) he #[.int .i64 c, .int .i64 d] 0 (by simp)
  have q1 := run_part2 (w := w) he #[.int .i64 c, .int .i64 d] 1 (by simp)
  simp at p0 p1 q0 q1
  have hq' : ∀ (x y : Int), (Op.equalIn 9999 e (.int .i64 x) (.int .i64 y)).run P w = .ok (x == y) w := fun x y => hq x y 9998
  simp only [List.range', List.forIn_cons, List.forIn_nil, Nat.zero_add, Nat.reduceAdd, Nat.mul_one, Sem.run_bind, p0, q0, hq', Result.andThen_ok]
  have hq2 := hq' b d
  generalize (a == c) = x
  generalize (b == d) = y at *
  cases x <;> cases y <;> simp [p1, q1, hq2]

theorem run_keyG {k : TypeId} {n : Nat} (hk : KeyT P k n) {kk : List Int} {v : Value} (hv : keyR kk v) (hn : kk.length = n) (em : Bool) : (Instr.checkKey em 10000 k v).run P w = .ok () w := by
  cases hk with
  | one h =>
    rcases keyR_cases hv with ⟨a, rfl, rfl⟩ | ⟨a, b, rfl, rfl⟩
    · rw [show (10000 : Nat) = 9999 + 1 from rfl, Instr.checkKey]
      simp only [Sem.run_bind, run_underlying h, Result.andThen_ok]
      rfl
    · simp at hn
  | arr e i h he hi h1 =>
    rcases keyR_cases hv with ⟨a, rfl, rfl⟩ | ⟨a, b, rfl, rfl⟩
    · simp at hn
    · exact run_checkKey2 h he hi h1 em a b
  | str fs f g h hfs hf hg h0 h1 n0 n1 hst =>
    rcases keyR_cases hv with ⟨a, rfl, rfl⟩ | ⟨a, b, rfl, rfl⟩
    · simp at hn
    · have hp : ∀ (t : TypeId) (ht : P.underlying t = some (.int .i64)) (x : Value) (d : Nat), (Instr.checkKey em (d + 1) t x).run P w = .ok () w := fun t ht x d => by
        rw [Instr.checkKey]
        simp only [Sem.run_bind, run_underlying ht, Result.andThen_ok]
        cases x <;> rfl
      rw [show (10000 : Nat) = 9998 + 1 + 1 from rfl, Instr.checkKey]
      simp only [Sem.run_bind, run_underlying h, Result.andThen_ok]
      have p0 : (part f.type #[.int .i64 a, .int .i64 b] f.offset).run P w = .ok (.int .i64 a) w := by rw [h0]; exact run_part2 hf _ 0 (by simp)
      have p1 : (part g.type #[.int .i64 a, .int .i64 b] g.offset).run P w = .ok (.int .i64 b) w := by rw [h1]; exact run_part2 hg _ 1 (by simp)
      rw [← Array.forIn_toList, hfs]
      simp [n0, n1, p0, p1, hp _ hf, hp _ hg]

theorem run_eqG {k : TypeId} {n : Nat} (hk : KeyT P k n) {kk kk' : List Int} {v v' : Value} (hv : keyR kk v) (hv' : keyR kk' v') (hn : kk.length = n) (hn' : kk'.length = n) : (Op.equal k v v').run P w = .ok (kk == kk') w := by
  cases hk with
  | one h =>
    rcases keyR_cases hv with ⟨a, rfl, rfl⟩ | ⟨a, b, rfl, rfl⟩
    · rcases keyR_cases hv' with ⟨c, rfl, rfl⟩ | ⟨c, d, rfl, rfl⟩
      · rw [Op.equal, show Op.maxDepth = 9999 + 1 from rfl, Op.equalIn]
        simp only [Sem.run_bind, run_underlying h, Result.andThen_ok]
        simp
      · simp at hn'
    · simp at hn
  | arr e i h he hi h1 =>
    rcases keyR_cases hv with ⟨a, rfl, rfl⟩ | ⟨a, b, rfl, rfl⟩
    · simp at hn
    · rcases keyR_cases hv' with ⟨c, rfl, rfl⟩ | ⟨c, d, rfl, rfl⟩
      · simp at hn'
      · rw [run_equal2 h he hi h1]; simp
  | str fs f g h hfs hf hg h0 h1 n0 n1 hst =>
    rcases keyR_cases hv with ⟨a, rfl, rfl⟩ | ⟨a, b, rfl, rfl⟩
    · simp at hn
    · rcases keyR_cases hv' with ⟨c, rfl, rfl⟩ | ⟨c, d, rfl, rfl⟩
      · simp at hn'
      · have hq : ∀ (t : TypeId) (ht : P.underlying t = some (.int .i64)) (x y : Int) (m : Nat), (Op.equalIn (m + 1) t (.int .i64 x) (.int .i64 y)).run P w = .ok (x == y) w := fun t ht x y m => by
          simp [Op.equalIn, run_underlying ht]
        rw [Op.equal, show Op.maxDepth = 9998 + 1 + 1 from rfl, Op.equalIn]
        simp only [Sem.run_bind, run_underlying h, Result.andThen_ok]
        have p0 : (part f.type #[.int .i64 a, .int .i64 b] f.offset).run P w = .ok (.int .i64 a) w := by rw [h0]; exact run_part2 hf _ 0 (by simp)
        have p1 : (part g.type #[.int .i64 a, .int .i64 b] g.offset).run P w = .ok (.int .i64 b) w := by rw [h1]; exact run_part2 hg _ 1 (by simp)
        have q0 : (part f.type #[.int .i64 c, .int .i64 d] f.offset).run P w = .ok (.int .i64 c) w := by rw [h0]; exact run_part2 hf _ 0 (by simp)
        have q1 : (part g.type #[.int .i64 c, .int .i64 d] g.offset).run P w = .ok (.int .i64 d) w := by rw [h1]; exact run_part2 hg _ 1 (by simp)
        have e0 := hq _ hf a c 9998
        have e1 := hq _ hg b d 9998
        have hpr : (program : Sem Program).run P w = .ok P w := rfl
        rw [← Array.forIn_toList, hfs]
        simp only [hpr, Result.andThen_ok, hst, Bool.false_eq_true, if_false]
        simp only [List.forIn_cons, List.forIn_nil, n0, n1, ne_eq, not_false_eq_true, if_true, Sem.run_bind, p0, q0, e0, Result.andThen_ok]
        have hb : ([a, b] == [c, d]) = ((a == c) && (b == d)) := by simp
        rw [hb]
        generalize (a == c) = x
        generalize (b == d) = y at e1 ⊢
        cases x <;> cases y <;> simp [p1, q1, e1]

/-- the first entry of a key -/
def pick : List MapEntry → List (List Int × D) → List Int → Nat → Option (Nat × Value)
  | x :: l, e :: el, kk, n => if e.1 == kk then some (n, x.val) else pick l el kk (n + 1)
  | _, _, _, _ => none

theorem run_findG {k : TypeId} {n : Nat} (hk : KeyT P k n) {kk : List Int} {v : Value} (hv : keyR kk v) (hn : kk.length = n) (l : List MapEntry) (el : List (List Int × D)) (hl : l.length = el.length)
    (hr : ∀ (i : Nat) (x : MapEntry) (e : List Int × D), l[i]? = some x → el[i]? = some e → keyR e.1 x.key) (hkl : klen n el = true) : (Instr.findKey k v l).run P w = .ok (pick l el kk 0) w := by
  have ask : ∀ (l : List MapEntry) (el : List (List Int × D)) (m : Nat), l.length = el.length → (∀ (i : Nat) (x : MapEntry) (e : List Int × D), l[i]? = some x → el[i]? = some e → keyR e.1 x.key) → klen n el = true →
      (Instr.findAsking k v l m).run P w = .ok (pick l el kk m) w := by
    intro l
    induction l with
    | nil => intro el m hl _ _; cases el with
      | nil => simp [Instr.findAsking, pick]
      | cons _ _ => simp at hl
    | cons y l ih =>
      intro el m hl hr hkl
      cases el with
      | nil => simp at hl
      | cons e el =>
        have hy := hr 0 y e rfl rfl
        simp only [klen, List.all_cons, Bool.and_eq_true, beq_iff_eq] at hkl
        have hq := run_eqG (w := w) hk hv hy hn hkl.1
        rw [Instr.findAsking]
        simp only [Sem.run_bind, hq, Result.andThen_ok, pick]
        have hsym : (e.1 == kk) = (kk == e.1) := Bool.beq_comm
        rw [hsym]
        cases hb : (kk == e.1)
        · simp only [Bool.false_eq_true, if_false]
          exact ih el (m + 1) (by simpa using hl) (fun i x e hx he => hr (i + 1) x e (by simpa using hx) (by simpa using he)) hkl.2
        · simp
  unfold Instr.findKey
  simp only [Sem.run_bind]
  cases hk with
  | one h =>
    rcases keyR_cases hv with ⟨a, rfl, rfl⟩ | ⟨a, b, rfl, rfl⟩
    · have now : ∀ (l : List MapEntry) (el : List (List Int × D)) (m : Nat), l.length = el.length → (∀ (i : Nat) (x : MapEntry) (e : List Int × D), l[i]? = some x → el[i]? = some e → keyR e.1 x.key) → klen 1 el = true →
          Instr.findNow (.int .i64) (.int .i64 a) l m = some (pick l el [a] m) := by
        intro l
        induction l with
        | nil => intro el m hl _ _; cases el with
          | nil => simp [Instr.findNow, pick]
          | cons _ _ => simp at hl
        | cons y l ih =>
          intro el m hl hr hkl
          cases el with
          | nil => simp at hl
          | cons e el =>
            have hy := hr 0 y e rfl rfl
            simp only [klen, List.all_cons, Bool.and_eq_true, beq_iff_eq] at hkl
            rcases keyR_cases hy with ⟨c, hc, hyk⟩ | ⟨c, d, hc, hyk⟩
            · have ih' := ih el (m + 1) (by simpa using hl) (fun i x e hx he => hr (i + 1) x e (by simpa using hx) (by simpa using he)) hkl.2
              rw [Instr.findNow, hyk]
              simp only [Instr.sameNow, pick, hc, if_true]
              by_cases hac : a = c
              · subst hac; simp
              · have h2 : ¬ c = a := fun e => hac e.symm
                have e1 : (a == c) = false := by simp [hac]
                have e2 : ([c] == [a]) = false := by simp [h2]
                rw [e1, e2]
                simpa using ih'
            · rw [hc] at hkl; simp at hkl
      rw [run_underlying h]
      simp only [Result.andThen_ok]
      rw [now l el 0 hl hr hkl]
      rfl
    · simp at hn
  | arr e i h he hi h1 =>
    rcases keyR_cases hv with ⟨a, rfl, rfl⟩ | ⟨a, b, rfl, rfl⟩
    · simp at hn
    · rw [run_underlying h]
      simp only [Result.andThen_ok]
      cases l with
      | nil =>
        cases el with
        | nil => simp [Instr.findNow, pick]
        | cons _ _ => simp at hl
      | cons y l =>
        have : Instr.findNow (.array 2 e) (.agg #[.int .i64 a, .int .i64 b]) (y :: l) 0 = none := by simp [Instr.findNow, Instr.sameNow]
        rw [this]
        exact ask _ el 0 hl hr hkl
  | str fs f g h hfs hf hg h0 h1 n0 n1 hst =>
    rcases keyR_cases hv with ⟨a, rfl, rfl⟩ | ⟨a, b, rfl, rfl⟩
    · simp at hn
    · rw [run_underlying h]
      simp only [Result.andThen_ok]
      cases l with
      | nil =>
        cases el with
        | nil => simp [Instr.findNow, pick]
        | cons _ _ => simp at hl
      | cons y l =>
        have : Instr.findNow (.struct fs) (.agg #[.int .i64 a, .int .i64 b]) (y :: l) 0 = none := by simp [Instr.findNow, Instr.sameNow]
        rw [this]
        exact ask _ el 0 hl hr hkl

theorem run_staysG {kk : List Int} {v v' : Value} (h : keyR kk v) (h' : keyR kk v') : (Instr.keyThatStays v v').run P w = .ok v' w := by
  have hb : Instr.sameBits 10000 v v' = true := by
    rcases keyR_cases h with ⟨a, rfl, rfl⟩ | ⟨a, b, rfl, rfl⟩
    · have : v' = .int .i64 a := h'
      subst this
      rw [show (10000 : Nat) = 9999 + 1 from rfl]; simp [Instr.sameBits]
    · have : v' = .agg #[.int .i64 a, .int .i64 b] := h'
      subst this
      rw [show (10000 : Nat) = 9998 + 1 + 1 from rfl]; simp [Instr.sameBits]
  simp [Instr.keyThatStays, hb]

/-- what the first entry of a key says of the abstract entries -/
theorem pick_spec {l : List MapEntry} {el : List (List Int × D)} {kk : List Int} : ∀ (m : Nat), l.length = el.length →
    (pick l el kk m = none ∧ mget el kk = none ∧ ∀ d, mput el kk d = el ++ [(kk, d)]) ∨
    ∃ j x d0, pick l el kk m = some (m + j, x.val) ∧ l[j]? = some x ∧ el[j]? = some (kk, d0) ∧ mget el kk = some d0 ∧ ∀ d, mput el kk d = el.set j (kk, d) := by
  induction l generalizing el with
  | nil =>
    intro m hl
    cases el with
    | nil => exact .inl ⟨rfl, rfl, fun d => rfl⟩
    | cons _ _ => simp at hl
  | cons y l ih =>
    intro m hl
    cases el with
    | nil => simp at hl
    | cons e el =>
      obtain ⟨k', d0⟩ := e
      by_cases he : k' = kk
      · subst he
        exact .inr ⟨0, y, d0, by simp [pick], rfl, rfl, by simp [mget], fun d => by simp [mput]⟩
      · have hb : (k' == kk) = false := by simp [he]
        rcases ih (el := el) (m + 1) (by simpa using hl) with ⟨h1, h2, h3⟩ | ⟨j, x, d1, h1, h2, h3, h4, h5⟩
        · refine .inl ⟨by simp [pick, hb, h1], ?_, fun d => by simp [mput, hb, h3]⟩
          simp only [mget, List.find?_cons, hb] at h2 ⊢; exact h2
        · refine .inr ⟨j + 1, x, d1, by simp [pick, hb, h1]; omega, by simpa using h2, by simpa using h3, ?_, fun d => by simp [mput, hb, h5]⟩
          simp only [mget, List.find?_cons, hb] at h4 ⊢; exact h4

theorem atm_spec {b ver : Nat} {Q : List (List Int × D) → Prop} (h : s.atm b ver Q) : ∃ es, s.hp b = ⟨ver, .map es⟩ ∧ Q es := by
  unfold St.atm at h
  split at h
  · rename_i v es hb; exact ⟨es, by rw [← h.1]; exact hb, h.2⟩
  · exact h.elim

theorem atm_mem {b ver : Nat} {es : List (List Int × D)} (hs : SimA s a w M) (hb : s.hp b = ⟨ver, .map es⟩) :
    (M b).ver = ver ∧ ∃ c E clock, (M b).loc = some (.mem c 0) ∧ w.heap[c]? = some (.map E clock) ∧ E.size = es.length ∧
      ∀ (i : Nat) (x : MapEntry) (e : List Int × D), E[i]? = some x → es[i]? = some e → keyR e.1 x.key ∧ Rep w M e.2 x.val := by
  have h1 := hs.sim.ver b
  have h2 := hs.sim.con b
  rw [hb] at h1 h2
  exact ⟨h1, h2⟩

theorem rep_map {b ver c : Nat} {v : Value} (h : Rep w M (.map b ver) v) (hv : (M b).ver = ver) (hl : (M b).loc = some (.mem c 0)) : v = .map (some c) := by
  cases h with
  | map _ _ _ h1 h2 h3 =>
    have := h2 hv
    rw [hl] at this
    exact this

theorem run_getMap {P : Program} {w : World} {r : Nat} {E : Array MapEntry} {clock : Nat} (hb : w.heap[r]? = some (.map E clock)) : (getObj r).run P w = .ok (.map E clock) w := by
  simp [getObj, Sem.run, hb]
theorem run_setMap {P : Program} {w : World} {r : Nat} {E : Array MapEntry} {clock : Nat} (o : Obj) (hb : w.heap[r]? = some (.map E clock)) : (setObj r o).run P w = .ok () { w with heap := w.heap.setIfInBounds r o } := by
  simp [setObj, Sem.run, hb]

theorem sim_newmap {w w' : World} {M : Ctx} {H : Heap} (hs : Sim w M H) (b : Nat) (hnv : (H b).con.isOpq = false) (hw : w'.heap = w.heap.push (.map #[] 0)) (hsame : Same w w' := by exact ⟨rfl, rfl, rfl⟩) :
    Step w M w' (updM M b ⟨(H b).ver + 1, some (.mem w.heap.size 0), false⟩) ∧ Sim w' (updM M b ⟨(H b).ver + 1, some (.mem w.heap.size 0), false⟩) (upd H b ⟨(H b).ver + 1, .map []⟩) := by
  have hold : ∀ c, c < w.heap.size → w'.heap[c]? = w.heap[c]? := fun c hc => by rw [hw, Array.getElem?_push_lt hc]; simp [hc]
  have hnew : w'.heap[w.heap.size]? = some (.map #[] 0) := by rw [hw]; simp
  have hstep : Step w M w' (updM M b ⟨(H b).ver + 1, some (.mem w.heap.size 0), false⟩) := by
    refine ⟨by rw [hw]; simp, fun b' => ?_, fun b' he => ?_, fun c hc hlv => ?_, fun c hc hlv => ?_, fun c hc _ => hold c hc, fun c hc C' e' fr' h => ⟨C', e', fr', (hold c hc).symm.trans h, rfl⟩, hs.known, fun b' ho => ?_, hsame⟩
    · unfold updM; split
      · rename_i h; subst h; rw [hs.ver]; exact Nat.le_succ _
      · exact Nat.le_refl _
    · unfold updM at he ⊢; split
      · rename_i h; subst h; simp [hs.ver] at he
      · exact .inr rfl
    · obtain ⟨b', base, h⟩ := hlv
      unfold updM at h; split at h
      · injection h with h; injection h with h; omega
      · exact ⟨b', base, h⟩
    · obtain ⟨b', base, h, h2⟩ := hlv
      unfold updM at h h2; split at h
      · injection h with h; injection h with h; omega
      · rename_i hne; rw [if_neg hne] at h2; exact ⟨b', base, h, h2⟩
    · unfold updM; split
      · rename_i h; subst h; rw [hs.opq, hnv] at ho; cases ho
      · rfl
  refine ⟨hstep, fun b' => ?_, fun b' => ?_, fun b1 b2 c base base' h1 h2 => ?_, fun b' => ?_⟩
  rotate_left 3
  · unfold updM upd; split
    · rfl
    · exact hs.opq b'
  · unfold updM upd; split
    · rfl
    · exact hs.ver b'
  · by_cases h : b' = b
    · subst h
      simp only [updM, upd, if_true]
      exact ⟨_, #[], 0, rfl, hnew, by simp, by simp⟩
    · simp only [updM, upd, h, if_false]
      exact (hs.con b').step hstep fun c base hlc => hold c (hs.known b' c base hlc)
  · unfold updM at h1 h2
    split at h1 <;> split at h2
    · omega
    · injection h1 with h1; injection h1 with h1; have := hs.known b2 c base' h2; omega
    · injection h2 with h2; injection h2 with h2; have := hs.known b1 c base h1; omega
    · exact hs.inj b1 b2 c base base' h1 h2

/-- a map's entries, others from now on -/
theorem sim_putmap {w w' : World} {M : Ctx} {H : Heap} (hs : Sim w M H) (b c : Nat) (hnv : (H b).con.isOpq = false) (E E' : Array MapEntry) (clock clock' : Nat) (hloc : (M b).loc = some (.mem c 0))
    (hc : w.heap[c]? = some (.map E clock)) (hsz : w'.heap.size = w.heap.size) (hother : ∀ k, k ≠ c → w'.heap[k]? = w.heap[k]?) (hc' : w'.heap[c]? = some (.map E' clock'))
    (es : List (List Int × D)) (hsz2 : E'.size = es.length) (hr : ∀ (i : Nat) (x : MapEntry) (e : List Int × D), E'[i]? = some x → es[i]? = some e → keyR e.1 x.key ∧ Rep w M e.2 x.val) (hsame : Same w w' := by exact ⟨rfl, rfl, rfl⟩) :
    Step w M w' M ∧ Sim w' M (upd H b ⟨(H b).ver, .map es⟩) := by
  have hlive : Live M c := ⟨b, 0, hloc, by rw [hs.opq]; exact hnv⟩
  have hstep : Step w M w' M := by
    refine ⟨Nat.le_of_eq hsz.symm, fun b' => Nat.le_refl _, fun b' he => .inr rfl, fun k hk hlv => hlv, fun k hk hlv => hlv, fun k hk hn => hother k (fun h => hn (h ▸ hlive)), fun k hk C1 e1 fr1 h => ?_, hs.known, fun b' ho => rfl, hsame⟩
    by_cases hkc : k = c
    · subst hkc
      rw [hc'] at h; cases h
    · rw [hother k hkc] at h; exact ⟨C1, e1, fr1, h, rfl⟩
  refine ⟨hstep, fun b' => ?_, fun b' => ?_, hs.inj, fun b' => ?_⟩
  · unfold upd; split
    · rename_i h; subst h; exact hs.ver b'
    · exact hs.ver b'
  · by_cases h : b' = b
    · subst h
      simp only [upd, if_true]
      exact ⟨c, E', clock', hloc, hc', hsz2, fun i x e hx he => ⟨(hr i x e hx he).1, (hr i x e hx he).2.step hstep⟩⟩
    · simp only [upd, h, if_false]
      exact (hs.con b').step hstep fun k base1 hlc => hother k (fun hk => h (by subst hk; exact hs.inj b' b k base1 0 hlc hloc))
  · unfold upd; split
    · rename_i h; subst h; rw [hs.opq, hnv]; rfl
    · exact hs.opq b'

theorem sound_mkmap {t : TypeId} (hs : SimA s a w M) (ho : o.op = .makeMap t none) (h : run s o.dst K .mkmap) : Good P s o a w M K := by
  simp only [run] at h
  obtain ⟨t', ht, hlt, hnv, hQ⟩ := new_spec h
  have hw : ∃ w', (execOp a.eval o).run P w = .ok (.value (.map (some w.heap.size))) w' ∧ w'.heap = w.heap.push (.map #[] 0) ∧ Same w w' := by
    refine ⟨{ w with heap := w.heap.push (.map #[] 0) }, by simp [execOp, ho, Instr.makeMap, newObj, Sem.run], rfl, ⟨rfl, rfl, rfl⟩⟩
  obtain ⟨w', hrun, hheap, hsame⟩ := hw
  obtain ⟨hst, hsim⟩ := sim_newmap hs.sim (s.n + t') hnv hheap hsame
  exact ⟨_, _, _, _, _, hQ, inr_new hlt, .inl hrun, hst, hsim, .map _ _ _ (by simp [updM]) (by simp [updM, MapOk]) ⟨_, rfl⟩⟩

theorem look_sound {t k e : TypeId} {x ix : Operand} {i : TypeInfo} {z : Value} (ok : Bool) (hs : SimA s a w M) (ho : o.op = .lookup t x ix ok) (ht : P.underlying t = some (.map k e)) (hi : P.info? e = some i) (hz : i.zero = some z) {n : Nat} (hk : KeyT P k n)
    {R : D → Bool → Prop} (h : mlook s n (s.val (opd x)) (litD z) (keyD (s.val (opd ix))) R) : ∃ v d b, (execOp a.eval o).run P w = .ok (.value (if ok then .tuple #[v, .bool b] else v)) w ∧ Rep w M d v ∧ R d b := by
  have hx := val_rep hs x
  have hix := val_rep hs ix
  unfold mlook at h
  split at h
  · rename_i b ver kk hv hkd
    rw [hv] at hx
    have hkr := keyD_rep hkd hix
    obtain ⟨es, hb, hkl, hall, hres⟩ := atm_spec h
    obtain ⟨hver, c, E, clock, hl, hc, hsz, hrep⟩ := atm_mem hs hb
    have hve := rep_map hx hver hl
    have hck := run_keyG (P := P) (w := w) hk hkr hkl E.isEmpty
    have hfi := run_findG (P := P) (w := w) hk hkr hkl E.toList es (by simpa using hsz) (fun i x e hx he => (hrep i x e (by simpa using hx) he).1) hall
    rcases pick_spec (l := E.toList) (el := es) (kk := kk) 0 (by simpa using hsz) with ⟨h1, h2, _⟩ | ⟨j, y, d0, h1, h2, h3, h4, _⟩
    · rw [h2] at hres
      rw [h1] at hfi
      refine ⟨z, litD z, false, ?_, litD_rep w M z, hres⟩
      cases ok <;> simp [execOp, ho, Instr.lookup, hve, run_underlying ht, run_getMap hc, hck, hfi, run_zero w hi hz]
    · rw [h4] at hres
      rw [h1] at hfi
      refine ⟨y.val, d0, true, ?_, (hrep j y _ (by simpa using h2) h3).2, hres⟩
      cases ok <;> simp [execOp, ho, Instr.lookup, hve, run_underlying ht, run_getMap hc, hck, hfi]
  · rename_i kk hv hkd
    rw [hv] at hx
    have hkr := keyD_rep hkd hix
    generalize hve : a.eval x = u at hx
    cases hx
    have hck := run_keyG (P := P) (w := w) hk hkr h.1 true
    have hfi := run_findG (P := P) (w := w) hk hkr h.1 [] [] rfl (fun i x e hx he => by simp at hx) rfl
    refine ⟨z, litD z, false, ?_, litD_rep w M z, h.2⟩
    cases ok <;> simp [execOp, ho, Instr.lookup, hve, run_underlying ht, hck, hfi, run_zero w hi hz, pick]
  · exact h.elim

theorem sound_lookup {t k e : TypeId} {x ix : Operand} {i : TypeInfo} {z : Value} (hs : SimA s a w M) (ho : o.op = .lookup t x ix true) (ht : P.underlying t = some (.map k e)) (hi : P.info? e = some i) (hz : i.zero = some z) {n : Nat} (hk : KeyT P k n)
    (h : run s o.dst K (.lookup n (litD z) (opd x) (opd ix))) : Good P s o a w M K := by
  simp only [run] at h
  obtain ⟨v, d, b, h1, h2, h3⟩ := look_sound true hs ho ht hi hz hk h
  refine good_same hs h1 (.tup _ _ rfl fun i' c' v' hc' hv' => ?_) h3
  rcases i' with _ | _ | i'
  · simp at hc' hv'; subst hc'; subst hv'; exact h2
  · simp at hc' hv'; subst hc'; subst hv'; exact .bool _
  · simp at hc'
theorem sound_lookv {t k e : TypeId} {x ix : Operand} {i : TypeInfo} {z : Value} (hs : SimA s a w M) (ho : o.op = .lookup t x ix false) (ht : P.underlying t = some (.map k e)) (hi : P.info? e = some i) (hz : i.zero = some z) {n : Nat} (hk : KeyT P k n)
    (h : run s o.dst K (.lookv n (litD z) (opd x) (opd ix))) : Good P s o a w M K := by
  simp only [run] at h
  obtain ⟨v, d, b, h1, h2, h3⟩ := look_sound false hs ho ht hi hz hk h
  exact good_same hs h1 h2 h3

theorem sound_mupd {t k e : TypeId} {m ix x : Operand} (hs : SimA s a w M) (ho : o.op = .mapUpdate t m ix x ∨ o.op = .insert t m ix x) (ht : P.underlying t = some (.map k e)) {n : Nat} (hk : KeyT P k n)
    (h : run s o.dst K (.mupd n (opd m) (opd ix) (opd x))) : Good P s o a w M K := by
  simp only [run] at h
  have hm := val_rep hs m
  have hix := val_rep hs ix
  have hx := val_rep hs x
  split at h
  · rename_i b ver kk hv hkd
    rw [hv] at hm
    have hkr := keyD_rep hkd hix
    obtain ⟨es, hb, hkl, hall, hK⟩ := atm_spec h
    obtain ⟨hver, c, E, clock, hl, hc, hsz, hrep⟩ := atm_mem hs hb
    have hve := rep_map hm hver hl
    have hcs : c < w.heap.size := (Array.getElem?_eq_some_iff.1 hc).1
    have hck := run_keyG (P := P) (w := w) hk hkr hkl false
    have hfi := run_findG (P := P) (w := w) hk hkr hkl E.toList es (by simpa using hsz) (fun i x e hx he => (hrep i x e (by simpa using hx) he).1) hall
    have hbn : b < s.n + s.lc.length := by
      refine Nat.lt_of_not_le fun hle => ?_
      have h0 : s.hp b = blk0 := by
        have e3 : ¬ b < s.n := by omega
        have e4 : s.lc[b - s.n]? = none := by rw [List.getElem?_eq_none_iff]; omega
        simp [St.hp, mrg, e3, e4]
      rw [h0] at hb; cases hb
    have put : ∀ (E' : Array MapEntry) (clock' : Nat), (execOp a.eval o).run P w = .ok .skip { w with heap := w.heap.setIfInBounds c (.map E' clock') } → E'.size = (mput es kk (s.val (opd x))).length →
        (∀ (i : Nat) (y : MapEntry) (e : List Int × D), E'[i]? = some y → (mput es kk (s.val (opd x)))[i]? = some e → keyR e.1 y.key ∧ Rep w M e.2 y.val) → Good P s o a w M K := by
      intro E' clock' hrun hsz2 h1
      obtain ⟨hst, hsim⟩ := sim_putmap (w' := { w with heap := w.heap.setIfInBounds c (.map E' clock') }) hs.sim b c (by rw [hb]; rfl) E E' clock clock' hl hc (by simp) (fun k hk => by simp [Ne.symm hk]) (by simp [hcs]) _ hsz2 h1
      refine ⟨undef, _, .top, [(b, ⟨ver, .map (mput es kk (s.val (opd x)))⟩)], M, hK, by simpa [St.inr] using hbn, .inr ⟨hrun, rfl⟩, hst, ?_, .top _⟩
      rw [hb] at hsim
      exact hsim
    rcases pick_spec (l := E.toList) (el := es) (kk := kk) 0 (by simpa using hsz) with ⟨h1, h2, h3⟩ | ⟨j, y, d0, h1, h2, h3, h4, h5⟩
    · rw [h1] at hfi
      refine put (E.push { key := a.eval ix, val := a.eval x, born := clock }) (clock + 1) ?_ ?_ ?_
      · rcases ho with ho | ho <;> simp [execOp, ho, Instr.mapUpdate, hve, run_underlying ht, run_getMap hc, hck, hfi, run_setMap _ hc]
      · rw [h3]; simp [hsz]
      · intro i y e hy he
        rw [h3] at he
        by_cases hi : i < E.size
        · rw [Array.getElem?_push_lt hi] at hy
          rw [List.getElem?_append_left (by omega)] at he
          exact hrep i y e (by simpa [hi] using hy) he
        · have hi2 : i = E.size := by
            have := (Array.getElem?_eq_some_iff.1 hy).1
            simp at this; omega
          subst hi2
          rw [List.getElem?_append_right (by omega), hsz, Nat.sub_self] at he
          simp at hy he
          subst hy; subst he
          exact ⟨hkr, hx⟩
    · rw [h1] at hfi
      rw [Nat.zero_add] at hfi
      have hjE : E[j]? = some y := by simpa using h2
      have hjs : j < E.size := (Array.getElem?_eq_some_iff.1 hjE).1
      have hst := run_staysG (P := P) (w := w) (hrep j y _ hjE h3).1 hkr
      refine put (E.modify j fun e => { e with key := a.eval ix, val := a.eval x }) clock ?_ ?_ ?_
      · rcases ho with ho | ho <;> simp [execOp, ho, Instr.mapUpdate, hve, run_underlying ht, run_getMap hc, hck, hfi, run_setMap _ hc, hjE, hst]
      · rw [h5]; simp [hsz]
      · intro i y' e hy he
        rw [h5, List.getElem?_set] at he
        rw [Array.getElem?_modify] at hy
        by_cases hij : j = i
        · subst hij
          rw [if_pos rfl, if_pos (by omega)] at he
          rw [if_pos rfl, hjE] at hy
          simp at he hy
          subst he; subst hy
          exact ⟨hkr, hx⟩
        · rw [if_neg hij] at he
          rw [if_neg hij] at hy
          exact hrep i y' e hy he
  · exact h.elim

end Abs
end Go.Proofs.Ytokdeeagghhliaa

namespace Go.Proofs.Ytokdeeagghhliaa
namespace Abs
set_option linter.unusedVariables false
variable {P : Program} {s : St} {o : Oper} {a : Act} {w : World} {M : Ctx} {K : D → Chg → Prop}

theorem sound_cmp {op : BinOp} {t ty : TypeId} {x y : Operand} (hs : SimA s a w M) (ho : o.op = .binOp op t x y ty) (h : run s o.dst K (compBin P op t x y)) : Good P s o a w M K := by
  have hbin : (op ≠ .eql ∧ op ≠ .neq) → Good P s o a w M K := fun hne => by
    have : compBin P op t x y = .bin op (opd x) (opd y) := by cases op <;> first | rfl | (simp at hne)
    rw [this] at h
    exact sound_bin hs ho h
  by_cases hop : op = .eql ∨ op = .neq
  · have hc : compBin P op t x y = match P.underlying t with
      | some (.struct fs) => match flatK P fs.toList 0 with
        | some ks => if !P.stoodInHeld t && !P.eqGuardType P.depth t then .eqs (op == .neq) ks (opd x) (opd y) else .bad
        | none => .bad
      | some .bool => .eqb (op == .neq) (opd x) (opd y)
      | some (.int _) | some .string => .bin op (opd x) (opd y)
      | some d => match nilOf d with
        | some (k, _) => if isNilC k y then .nileq k (op == .neq) (opd x) else if isNilC k x then .nileq k (op == .neq) (opd y) else .bad
        | none => .bad
      | none => .bad := by rcases hop with rfl | rfl <;> rfl
    rw [hc] at h
    clear hc
    split at h
    · rename_i fs hu
      split at h
      · rename_i ks hk
        split at h
        · rename_i hcond
          simp only [Bool.and_eq_true, Bool.not_eq_true'] at hcond
          exact sound_eqs hop hs ho hu hk hcond.1 hcond.2 h
        · exact h.elim
      · exact h.elim
    · rename_i hu; exact sound_eqb hop hs ho hu h
    · exact sound_bin hs ho h
    · exact sound_bin hs ho h
    · rename_i d _ _ _ _ hu
      split at h
      · rename_i k n hk
        split at h
        · rename_i hy; exact sound_nileq hop hs ho hu hk (.inl ⟨rfl, hy⟩) h
        · split at h
          · rename_i hx; exact sound_nileq hop hs ho hu hk (.inr ⟨rfl, hx⟩) h
          · exact h.elim
      · exact h.elim
    · exact h.elim
  · exact hbin ⟨fun h => hop (.inl h), fun h => hop (.inr h)⟩

theorem bind_some {α β : Type} {x : Option α} {f : α → Option β} {b : β} (h : x.bind f = some b) : ∃ a, x = some a ∧ f a = some b := by
  cases x with
  | none => cases h
  | some a => exact ⟨a, rfl, h⟩

set_option maxHeartbeats 1000000 in
theorem run_sound (hs : SimA s a w M) (h : run s o.dst K (comp P o.op)) : Good P s o a w M K := by
  cases ho : o.op with
  | move x => rw [ho] at h; exact sound_mov hs (.inl ho) h
  | assign x => rw [ho] at h; exact sound_mov hs (.inr ho) h
  | pick c x y => rw [ho] at h; exact sound_pick hs ho h
  | alloc e =>
    rw [ho] at h
    simp only [comp] at h
    split at h
    · rename_i z hz
      obtain ⟨i, hi, hz'⟩ := bind_some hz
      exact sound_alloc hs ho hi hz' h
    · exact h.elim
  | box e x => rw [ho] at h; exact sound_box hs ho h
  | build t parts =>
    rw [ho] at h
    simp only [comp] at h
    split at h
    · rename_i fs z hu hz
      obtain ⟨i, hi, hz'⟩ := bind_some hz
      split at h
      · rename_i ps hps
        split at h
        · rename_i hall
          exact sound_build_struct hs ho hu hi hz' (fun f hf => List.all_eq_true.1 hall f hf) hps h
        · exact h.elim
      · exact h.elim
    · rename_i n e z hu hz
      obtain ⟨i, hi, hz'⟩ := bind_some hz
      split at h
      · rename_i ie hie
        exact sound_build_array hs ho hu hi hz' hie h
      · exact h.elim
    · exact h.elim
  | buildSlice t len parts =>
    rw [ho] at h
    simp only [comp] at h
    split at h
    · rename_i e hu
      split at h
      · rename_i i hi
        split at h
        · rename_i z hz
          split at h
          · rename_i hcond
            simp only [Bool.and_eq_true, beq_iff_eq, bne_iff_ne, ne_eq, decide_eq_true_eq] at hcond
            exact sound_buildSlice hs ho hu hi hz hcond.1.1 hcond.1.2 hcond.2 h
          · exact h.elim
        · exact h.elim
      · exact h.elim
    · exact h.elim
  | load t x =>
    rw [ho] at h
    simp only [comp] at h
    split at h
    · rename_i i d hi hd
      split at h
      · exact h.elim
      · rename_i h0
        exact sound_load hs ho hi hd (by simpa using h0) h
    · exact h.elim
  | store t x y =>
    rw [ho] at h
    simp only [comp] at h
    split at h
    · rename_i i hi
      split at h
      · exact h.elim
      · rename_i h0
        exact sound_store hs ho hi (by simpa using h0) h
    · exact h.elim
  | nilCheck x => rw [ho] at h; exact sound_nilck hs ho h
  | binOp op t x y ty => rw [ho] at h; exact sound_cmp hs ho h
  | unOp op t x => rw [ho] at h; exact sound_un hs ho h
  | convert t u x =>
    rw [ho] at h
    simp only [comp] at h
    split at h
    · rename_i k' k ht hu
      exact sound_conv hs ho ht hu h
    · exact h.elim
  | makeFunc fn first caps =>
    rw [ho] at h
    cases fn with
    | func f =>
      simp only [comp] at h
      split at h
      · rename_i hf; exact sound_mkfn hs ho hf h
      · exact h.elim
    | _ => exact h.elim
  | makeSlice t x y =>
    rw [ho] at h
    simp only [comp] at h
    split at h
    · rename_i e hu
      split at h
      · rename_i i hi
        split at h
        · rename_i z hz
          split at h
          · rename_i hcond
            simp only [Bool.and_eq_true, beq_iff_eq, bne_iff_ne, ne_eq] at hcond
            exact sound_mkslice hs ho hu hi hz hcond.1 hcond.2 h
          · exact h.elim
        · exact h.elim
      · exact h.elim
    · exact h.elim
  | slice t x lo hi mx =>
    rw [ho] at h
    simp only [comp] at h
    split at h
    · rename_i e hu
      split at h
      · rename_i i hi'
        split at h
        · exact sound_slice hs ho hu hi' h
        · split at h
          · exact sound_slicez hs ho hu hi' h
          · exact h.elim
        · exact h.elim
      · exact h.elim
    · rename_i n e hu
      split at h
      · rename_i i hi'
        exact sound_slicea hs ho hu hi' h
      · exact h.elim
    · exact h.elim
  | fieldAddr t x f =>
    rw [ho] at h
    simp only [comp] at h
    split at h
    · rename_i fs hu
      split at h
      · rename_i fd hf
        split at h
        · rename_i i hi
          split at h
          · exact h.elim
          · rename_i h0
            exact sound_fieldAddr hs ho hu hf hi (by simpa using h0) h
        · exact h.elim
      · exact h.elim
    · exact h.elim
  | field t x f =>
    rw [ho] at h
    simp only [comp] at h
    split at h
    · rename_i fs hu
      split at h
      · rename_i fd hf
        split at h
        · rename_i i d hi hd
          exact sound_field hs ho hu hf hi hd h
        · exact h.elim
      · exact h.elim
    · exact h.elim
  | indexAddr t x ix =>
    rw [ho] at h
    simp only [comp] at h
    split at h
    · rename_i e hu
      split at h
      · rename_i i hi; exact sound_idxS hs ho hu hi h
      · exact h.elim
    · rename_i n e hu
      split at h
      · rename_i i hi; exact sound_idxA hs ho hu hi h
      · exact h.elim
    · exact h.elim
  | index t x ix =>
    rw [ho] at h
    simp only [comp] at h
    split at h
    · rename_i n e hu
      split at h
      · rename_i i d hi hd; exact sound_idx hs ho hu hi hd h
      · exact h.elim
    · exact h.elim
  | extract x i => rw [ho] at h; exact sound_extract hs ho h
  | makeMap t r =>
    rw [ho] at h
    cases r with
    | none => exact sound_mkmap hs ho h
    | some r => exact h.elim
  | lookup t x ix ok =>
    rw [ho] at h
    simp only [comp] at h
    split at h
    · rename_i k e hu
      split at h
      · rename_i z hz
        obtain ⟨i, hi, hz'⟩ := bind_some hz
        split at h
        · exact h.elim
        · rename_i hk
          cases ok with
          | true => exact sound_lookup hs ho hu hi hz' (keyK_spec hk) h
          | false => exact sound_lookv hs ho hu hi hz' (keyK_spec hk) h
      · exact h.elim
    · exact h.elim
  | mapUpdate t m k x =>
    rw [ho] at h
    simp only [comp] at h
    split at h
    · rename_i kt e hu
      split at h
      · exact h.elim
      · rename_i hk; exact sound_mupd hs (.inl ho) hu (keyK_spec hk) h
    · exact h.elim
  | insert t m k x =>
    rw [ho] at h
    simp only [comp] at h
    split at h
    · rename_i kt e hu
      split at h
      · exact h.elim
      · rename_i hk; exact sound_mupd hs (.inr ho) hu (keyK_spec hk) h
    · exact h.elim
  | call c =>
    rw [ho] at h
    simp only [comp] at h
    split at h
    · rename_i hc
      split at h
      · rename_i x e hx ht
        obtain ⟨t, ht1, ht2⟩ := bind_some ht
        exact sound_len hs ho hc hx ht1 ht2 h
      · rename_i x hx ht
        obtain ⟨t, ht1, ht2⟩ := bind_some ht
        exact sound_slen hs ho hc hx ht1 ht2 h
      · exact h.elim
    · rename_i hc
      split at h
      · rename_i x y t u hargs htys
        split at h
        · rename_i htu
          have htu' : t = u := by simpa using htu
          subst htu'
          split at h
          · rename_i e hu
            split at h
            · rename_i i hi
              split at h
              · rename_i z hz
                split at h
                · rename_i hcond
                  simp only [Bool.and_eq_true, beq_iff_eq, bne_iff_ne, ne_eq] at hcond
                  exact sound_append hs ho hc hargs htys hu hi hz hcond.1.1 hcond.1.2 hcond.2 h
                · exact h.elim
              · exact h.elim
            · exact h.elim
          · exact h.elim
        · split at h
          · rename_i e kn hu hu2
            split at h
            · rename_i i hi
              split at h
              · rename_i z hz
                split at h
                · rename_i hcond
                  simp only [Bool.and_eq_true, beq_iff_eq, bne_iff_ne, ne_eq] at hcond
                  exact sound_appendz hs ho hc hargs htys hu hu2 hi hz hcond.1.1 hcond.1.2 hcond.2 h
                · exact h.elim
              · exact h.elim
            · exact h.elim
          · exact h.elim
      · exact h.elim
    · rename_i hc
      split at h
      · rename_i x e hargs ht
        obtain ⟨t, ht1, ht2⟩ := bind_some ht
        exact sound_capz hs ho hc hargs ht1 ht2 h
      · exact h.elim
    · rename_i hc; exact sound_minmax (mx := false) hs ho hc h
    · rename_i hc; exact sound_minmax (mx := true) hs ho hc h
    · exact h.elim
    · exact h.elim
    · exact h.elim
  | _ => rw [ho] at h; exact h.elim

end Abs
end Go.Proofs.Ytokdeeagghhliaa

namespace Go.Proofs.Ytokdeeagghhliaa
namespace Abs
set_option linter.unusedVariables false

inductive AGuard where
  | always
  | on (t : Nat) (want : Bool)
  | bad

structure AOper where
  dst : Option Nat
  op : AOp
  guard : AGuard

def aguard (ops : Array Oper) (o : Oper) : AGuard :=
  match o.guard with
  | none => .always
  | some (j, want) => match (ops[j]?).bind (·.dst) with
    | some t => .on t want
    | none => .bad

def aoper (P : Program) (ops : Array Oper) (o : Oper) : AOper := ⟨o.dst, comp P o.op, aguard ops o⟩

/-- a choice -/
def condP (b : Bool) (X Y : Prop) : Prop := match b with
  | true => X
  | false => Y
def condG (b want : Bool) (X Y : Prop) : Prop := match b, want with
  | true, true => X
  | false, false => X
  | true, false => Y
  | false, true => Y
theorem condP_iff (b : Bool) (X Y : Prop) : condP b X Y = ((b = true → X) ∧ (b = false → Y)) := by cases b <;> simp [condP]
theorem condG_iff (b want : Bool) (X Y : Prop) : condG b want X Y = ((b = want → X) ∧ (b ≠ want → Y)) := by cases b <;> cases want <;> simp [condG]

def setD (sl : List D) (dst : Option Nat) (d : D) : List D :=
  match dst with
  | some t => sl.set t d
  | none => sl

def isCall : AOp → Bool
  | .call _ _ | .callv _ _ => true
  | _ => false

/-- the state behind an operation -/
def St.fin (s : St) (dst : Option Nat) (d : D) (δ : Chg) : St := ⟨s.n, setD s.sl dst d, (s.app δ).h, (s.app δ).lc⟩

/-- what a call hands on: changes of blocks that were there; or a slice in an array of its own -/
def callK (s : St) (dst : Option Nat) (K : D → Chg → Prop) (d : D) (h' : Heap) (x : List Blk) : Prop :=
  (∃ δ, s.inr δ ∧ x = [] ∧ h' = app s.hp δ ∧ K d δ) ∨
  (∃ t sz len v cs, dst = some t ∧ t < s.lc.length ∧ (s.lc.getD t blk0).con.isOpq = false ∧ h' = s.hp ∧ x = [⟨v, .cells cs⟩] ∧ d = .ref sz (s.n + s.lc.length) v 0 len ∧
    (∀ c ∈ cs, Low (s.n + s.lc.length) c) ∧ K (.ref sz (s.n + t) (lver s.lc t) 0 len) [(s.n + t, ⟨lver s.lc t, .cells cs⟩)])

def stepO (P : Program) (o : AOper) (s : St) (K : D → Chg → Prop) : Prop :=
  match o.op with
  | .call f args => ACalls P f (args.map s.val) (s.n + s.lc.length) s.hp (callK s o.dst K)
  | .callv x args => match s.val x with
    | .fn f caps => ACalls P f (args.map s.val ++ caps) (s.n + s.lc.length) s.hp (callK s o.dst K)
    | _ => False
  | op => run s o.dst K op

def aops (P : Program) : List AOper → St → (St → Prop) → Prop
  | [], s, K => K s
  | o :: os, s, K => match o.guard with
    | .always => stepO P o s fun d δ => aops P os (s.fin o.dst d δ) K
    | .on t want => match nth s.sl t with
      | .bool b => condG b want (stepO P o s fun d δ => aops P os (s.fin o.dst d δ) K) (aops P os (s.fin o.dst (.tup []) []) K)
      | .tup [] => aops P os (s.fin o.dst (.tup []) []) K
      | _ => False
    | .bad => False

variable {P : Program} {s : St} {o : Oper} {a : Act} {w : World} {M : Ctx}

theorem Grows.le {n n' : Nat} {w w' : World} {M M' : Ctx} (h : Grows n w M w' M') (hn : n' ≤ n) : Grows n' w M w' M' :=
  ⟨h.size, fun b hb => h.ver b (by omega), fun b hb => h.loc b (by omega), h.occ, h.live, h.imm, h.shape, fun b hb => h.opq b (by omega), h.same⟩

theorem app1_len (s : St) (p : Nat × Blk) : (s.app1 p).n = s.n ∧ (s.app1 p).lc.length = s.lc.length ∧ (s.app1 p).sl = s.sl := by
  unfold St.app1; split <;> simp

theorem app1_hp {s : St} {p : Nat × Blk} (hp : p.1 < s.n + s.lc.length) : (s.app1 p).hp = upd s.hp p.1 p.2 := by
  unfold St.app1
  split
  · rename_i h; exact (mrg_upd_lt p.2 h).symm
  · rename_i h
    have h1 := mrg_upd_loc (n := s.n) (h := s.h) (lc := s.lc) (t := p.1 - s.n) p.2 (by omega)
    rw [show s.n + (p.1 - s.n) = p.1 by omega] at h1
    exact h1.symm

theorem app_hp : ∀ (δ : Chg) (s : St), s.inr δ → (s.app δ).hp = app s.hp δ ∧ (s.app δ).n = s.n ∧ (s.app δ).lc.length = s.lc.length
  | [], s, _ => ⟨rfl, rfl, rfl⟩
  | p :: δ, s, h => by
    have h1 := app1_len s p
    have h2 := app1_hp (s := s) (h p (by simp))
    obtain ⟨h3, h4, h5⟩ := app_hp δ (s.app1 p) (fun q hq => by rw [h1.1, h1.2.1]; exact h q (by simp [hq]))
    refine ⟨?_, h4.trans h1.1, h5.trans h1.2.1⟩
    show ((s.app1 p).app δ).hp = app (upd s.hp p.1 p.2) δ
    rw [h3, h2]

theorem fin_hp {s : St} {δ : Chg} (h : s.inr δ) (dst : Option Nat) (d : D) : (s.fin dst d δ).hp = app s.hp δ := by
  obtain ⟨h1, h2, h3⟩ := app_hp δ s h
  rw [← h1]
  show mrg s.n _ _ = mrg (s.app δ).n _ _
  rw [h2]
  rfl

theorem simA_put (hs : SimA s a w M) {w' : World} {M' : Ctx} (hst : Step w M w' M') {d : D} {v : Value} (hr : Rep w' M' d v) {δ : Chg} (hδ : s.inr δ) (hsim : Sim w' M' (app s.hp δ)) (dst : Option Nat) :
    SimA (s.fin dst d δ) (a.put dst v) w' M' where
  defers := by cases dst <;> exact hs.defers
  size := by cases dst <;> simp [Act.put, setD, hs.size, St.fin]
  sim := by rw [fin_hp hδ]; exact hsim
  sl := by
    intro t d' v' hd hv
    cases dst with
    | none => exact (hs.sl t d' v' hd hv).step hst
    | some k =>
      simp only [St.fin, setD, Act.put] at hd hv
      rw [List.getElem?_set] at hd
      rw [Array.getElem?_setIfInBounds] at hv
      by_cases hk : k = t
      · subst hk
        simp only [if_true] at hd hv
        split at hd
        · injection hd with hd
          split at hv
          · injection hv with hv
            subst hd; subst hv; exact hr
          · cases hv
        · cases hd
      · rw [if_neg hk] at hd hv
        exact (hs.sl t d' v' hd hv).step hst

/-- an operation, as the region's law wants it -/
def OpOk (P : Program) (s : St) (o : Oper) (a : Act) (w : World) (M : Ctx) (K : D → Chg → Prop) (Q : Exit → Act → World → Prop) : Prop :=
  o.wp P a w (fun a' w' => ∃ d δ v M', K d δ ∧ s.inr δ ∧ a' = a.put o.dst v ∧ Step w M w' M' ∧ Sim w' M' (app s.hp δ) ∧ Rep w' M' d v) Q

theorem op_of_good {K : D → Chg → Prop} {Q : Exit → Act → World → Prop} (hs : SimA s a w M) (h : Good P s o a w M K) : OpOk P s o a w M K Q := by
  obtain ⟨v, w', d, δ, M', hK, hδ, hout, hst, hsim, hr⟩ := h
  unfold OpOk Oper.wp
  rcases hout with hrun | ⟨hrun, rfl⟩
  · rw [hrun]; exact ⟨d, δ, v, M', hK, hδ, rfl, hst, hsim, hr⟩
  · rw [hrun]; exact ⟨d, δ, undef, M', hK, hδ, rfl, hst, hsim, hr⟩

theorem simA_high (hs : SimA s a w M) : ∀ b, s.n + s.lc.length ≤ b → M b = hole := by
  intro b hb
  have h1 := hs.sim.ver b
  have h2 := hs.sim.con b
  have h5 := hs.sim.opq b
  have h3 : s.hp b = blk0 := by
    have e1 : ¬ b < s.n := by omega
    have e2 : s.lc[b - s.n]? = none := by rw [List.getElem?_eq_none_iff]; omega
    simp [St.hp, mrg, e1, e2]
  rw [h3] at h1 h2 h5
  have h4 : (M b).loc = none := h2
  generalize M b = x at h1 h4 h5
  cases x
  simp only at h1 h4 h5
  subst h1; subst h4; subst h5; rfl

theorem app_high {s : St} {δ : Chg} (h : s.inr δ) : mrg (s.n + s.lc.length) (app s.hp δ) [] = app s.hp δ := by
  obtain ⟨h1, h2, h3⟩ := app_hp δ s h
  rw [← h1]
  have := mrg_nil (s.app δ).n (s.app δ).h (s.app δ).lc
  rw [h2, h3] at this
  show mrg _ (mrg (s.app δ).n _ _) [] = mrg (s.app δ).n _ _
  rw [h2]
  exact this

theorem calls_op {f : FuncId} {ds : List D} {vs : Array Value} {K : D → Chg → Prop} {Q : Exit → Act → World → Prop} (hs : SimA s a w M) (hrun : (execOp a.eval o).run P w = .ok (.enter f vs) w) (hv : Reps w M ds vs)
    (h : ACalls P f ds (s.n + s.lc.length) s.hp (callK s o.dst K)) : OpOk P s o a w M K Q := by
  unfold OpOk Oper.wp
  rw [hrun]
  simp only [Oper.upon]
  have hsim0 : Sim w M (mrg (s.n + s.lc.length) s.hp []) := by rw [St.hp, mrg_nil]; exact hs.sim
  refine (h.2 w M vs hsim0 hv).mono fun e w' ⟨v, d, h', x, M', he, hK, hx, hS, hr, hg⟩ => ?_
  subst he
  rcases hK with ⟨δ, hδ, rfl, rfl, hK⟩ | ⟨t, sz, len, vv, cs, hdst, hlt, hnv, rfl, rfl, rfl, hlow, hK⟩
  · rw [app_high hδ] at hS
    have hst : Step w M w' M' := hg.step (simA_high hs) (fun b hb h0 => by
      have h3 := hS.con b
      rw [← app_high hδ] at h3
      have hbl : mrg (s.n + s.lc.length) (app s.hp δ) [] b = blk0 := by simp [mrg, Nat.not_lt.2 hb]
      rw [hbl] at h3
      exact h3) hs.sim.known
    exact ⟨d, δ, v, M', hK, hδ, rfl, hst, hS, hr⟩
  · -- the callee's array becomes a block of this frame
    let N := s.n + s.lc.length
    have hN : ∀ b, N ≤ b → M b = hole := simA_high hs
    have hvv : 1 ≤ vv := hx ⟨vv, .cells cs⟩ (by simp)
    have hSN : mrg N s.hp [⟨vv, .cells cs⟩] N = ⟨vv, .cells cs⟩ := by simp [mrg]
    have hSlt : ∀ b, b < N → mrg N s.hp [⟨vv, .cells cs⟩] b = s.hp b := fun b hb => mrg_lt hb
    have hShi : ∀ b, N < b → mrg N s.hp [⟨vv, .cells cs⟩] b = blk0 := fun b hb => by
      have h1 : ¬ b < N := by omega
      have h2 : b - N = (b - N - 1) + 1 := by omega
      simp only [mrg, if_neg h1]
      rw [h2]; rfl
    have hpT : s.hp (s.n + t) = s.lc.getD t blk0 := by rw [St.hp, mrg_loc]
    have hbT : s.n + t < N := by show _ < s.n + s.lc.length; omega
    let M2 : Ctx := fun b => if b = s.n + t then ⟨lver s.lc t, (M' N).loc, false⟩ else if b < N then M' b else hole
    have hM2t : M2 (s.n + t) = ⟨lver s.lc t, (M' N).loc, false⟩ := by simp [M2]
    have hM2o : ∀ b, b ≠ s.n + t → b < N → M2 b = M' b := fun b h1 h2 => by simp [M2, h1, h2]
    have hM2h : ∀ b, N ≤ b → M2 b = hole := fun b h1 => by
      have e1 : ¬ b = s.n + t := by omega
      have e2 : ¬ b < N := by omega
      simp [M2, e1, e2]
    have hverT : (M' (s.n + t)).ver = (s.lc.getD t blk0).ver := by rw [hS.ver, hSlt _ hbT, hpT]
    have hverT0 : (M (s.n + t)).ver = (s.lc.getD t blk0).ver := by rw [hs.sim.ver, hpT]
    have hocc : ∀ c, Occ M2 c → Occ M' c := by
      rintro c ⟨b, base, hb⟩
      by_cases e1 : b = s.n + t
      · rw [e1, hM2t] at hb; exact ⟨N, base, hb⟩
      · by_cases e2 : b < N
        · rw [hM2o b e1 e2] at hb; exact ⟨b, base, hb⟩
        · rw [hM2h b (by omega)] at hb; cases hb
    have hrel : ∀ {d : D} {v : Value}, Rep w' M' d v → Low N d → Rep w' M2 d v := fun hr hl => hr.relow (fun b ver hp hle => by
      by_cases e1 : b = s.n + t
      · rw [e1] at hle ⊢
        rw [hM2t]
        rw [hverT] at hle
        refine ⟨Nat.le_succ_of_le hle, fun e => ?_⟩
        simp only [lver] at e
        omega
      · by_cases e2 : b < N
        · rw [hM2o b e1 e2]; exact ⟨hle, fun e => .inr ⟨e, rfl⟩⟩
        · have h0 := hp.resolve_left e2
          subst h0
          rw [hM2h b (by omega)]; exact ⟨Nat.le_refl _, fun _ => .inl rfl⟩) hocc hl
    have hlowH : ∀ b, b < N → ∀ d v, Rep w M d v → Low N d := fun b hb d v hr => hr.low (fun b hb => by rw [hN b hb]; rfl)
    have hliveN : ∀ c, c < w.heap.size → ∀ base, (M' N).loc = some (.mem c base) → Occ M c := fun c hc base hl => hg.occ c hc ⟨N, base, hl⟩
    have hopN : (M' N).opq = false := by rw [hS.opq, hSN]; rfl
    have hopT : (M' (s.n + t)).opq = false := by rw [hS.opq, hSlt _ hbT, hpT]; exact hnv
    have hst : Step w M w' M2 := by
      refine ⟨hg.size, fun b => ?_, fun b e => ?_, fun c hc hl => hg.occ c hc (hocc c hl), fun c hc hl => ?_, hg.imm, hg.shape, hs.sim.known, fun b ho => ?_, hg.same⟩
      · by_cases e1 : b = s.n + t
        · rw [e1, hM2t, hverT0]; exact Nat.le_succ _
        · by_cases e2 : b < N
          · rw [hM2o b e1 e2]; exact hg.ver b e2
          · rw [hN b (by omega)]; exact Nat.zero_le _
      · by_cases e1 : b = s.n + t
        · rw [e1, hM2t, hverT0] at e; simp only [lver] at e; omega
        · by_cases e2 : b < N
          · rw [hM2o b e1 e2] at e ⊢; exact hg.loc b e2 e
          · rw [hM2h b (by omega)]; exact .inl rfl
      · obtain ⟨b, base, hb, ho⟩ := hl
        by_cases e1 : b = s.n + t
        · rw [e1, hM2t] at hb; exact hg.live c hc ⟨N, base, hb, hopN⟩
        · by_cases e2 : b < N
          · rw [hM2o b e1 e2] at hb ho; exact hg.live c hc ⟨b, base, hb, ho⟩
          · rw [hM2h b (by omega)] at hb; cases hb
      · by_cases e1 : b = s.n + t
        · rw [e1, hs.sim.opq, hpT, hnv] at ho; cases ho
        · by_cases e2 : b < N
          · rw [hM2o b e1 e2]; exact hg.opq b e2 ho
          · rw [hN b (by omega)] at ho; cases ho
    have hsim2 : Sim w' M2 (app s.hp [(s.n + t, ⟨lver s.lc t, .cells cs⟩)]) := by
      show Sim w' M2 (upd s.hp (s.n + t) ⟨lver s.lc t, .cells cs⟩)
      refine ⟨fun b => ?_, fun b => ?_, fun b b' c base base' h1 h2 => ?_, fun b => ?_⟩
      · by_cases e1 : b = s.n + t
        · rw [e1, hM2t, upd_same]
        · rw [upd_ne e1]
          by_cases e2 : b < N
          · rw [hM2o b e1 e2, hS.ver, hSlt b e2]
          · rw [hM2h b (by omega), ← hs.sim.ver, hN b (by omega)]
      · by_cases e1 : b = s.n + t
        · rw [e1, hM2t, upd_same]
          have hc := hS.con N
          rw [hSN] at hc
          rcases hc with ⟨a', h1, h2⟩ | ⟨c, base, C, e, h1, h2, h3, h4⟩
          · exact .inl ⟨a', h1, h2⟩
          · exact .inr ⟨c, base, C, e, h1, h2, h3, fun j d hd => let ⟨u, hu, hr⟩ := h4 j d hd; ⟨u, hu, hrel hr (hlow d (List.mem_of_getElem? hd))⟩⟩
        · rw [upd_ne e1]
          by_cases e2 : b < N
          · rw [hM2o b e1 e2]
            have hc := hS.con b
            rw [hSlt b e2] at hc
            have hc0 := hs.sim.con b
            cases hcon : (s.hp b).con with
            | none => rw [hcon] at hc; exact hc
            | veil => rw [hcon] at hc; exact hc
            | cells ds' =>
              rw [hcon] at hc hc0
              rcases hc with ⟨a', h1, h2⟩ | ⟨c, base, C, e, h1, h2, h3, h4⟩
              · exact .inl ⟨a', h1, h2⟩
              · refine .inr ⟨c, base, C, e, h1, h2, h3, fun j d hd => let ⟨u, hu, hr⟩ := h4 j d hd; ⟨u, hu, hrel hr ?_⟩⟩
                rcases hc0 with ⟨_, _, h5⟩ | ⟨_, _, _, _, _, _, _, h6⟩
                · rw [h5] at hd; simp at hd
                · obtain ⟨u0, _, hr0⟩ := h6 j d hd; exact hlowH b e2 d u0 hr0
            | map es =>
              rw [hcon] at hc hc0
              obtain ⟨c, E, cl, h1, h2, h3, h4⟩ := hc
              refine ⟨c, E, cl, h1, h2, h3, fun i x e hx he => ⟨(h4 i x e hx he).1, hrel (h4 i x e hx he).2 ?_⟩⟩
              obtain ⟨c0, E0, cl0, _, _, h5, h6⟩ := hc0
              have hi : i < E0.size := by rw [h5]; exact (List.getElem?_eq_some_iff.1 he).1
              exact hlowH b e2 e.2 _ (h6 i E0[i] e (by simp [hi]) he).2
          · rw [hM2h b (by omega)]
            have hc0 := hs.sim.con b
            rw [hN b (by omega)] at hc0
            have hb0 : s.hp b = blk0 := by
              have e3 : ¬ b < s.n := by omega
              have e4 : s.lc[b - s.n]? = none := by rw [List.getElem?_eq_none_iff]; omega
              simp [St.hp, mrg, e3, e4]
            rw [hb0]; rfl
      · have src : ∀ b c base, (M2 b).loc = some (.mem c base) → ∃ b0, (M' b0).loc = some (.mem c base) ∧ ((b = s.n + t ∧ b0 = N) ∨ (b ≠ s.n + t ∧ b < N ∧ b0 = b)) := fun b c base hb => by
          by_cases e1 : b = s.n + t
          · rw [e1, hM2t] at hb; exact ⟨N, hb, .inl ⟨e1, rfl⟩⟩
          · by_cases e2 : b < N
            · rw [hM2o b e1 e2] at hb; exact ⟨b, hb, .inr ⟨e1, e2, rfl⟩⟩
            · rw [hM2h b (by omega)] at hb; cases hb
        obtain ⟨b0, k0, q0⟩ := src b c base h1
        obtain ⟨b1, k1, q1⟩ := src b' c base' h2
        have := hS.inj b0 b1 c base base' k0 k1
        omega
      · by_cases e1 : b = s.n + t
        · rw [e1, hM2t, upd_same]; rfl
        · rw [upd_ne e1]
          by_cases e2 : b < N
          · rw [hM2o b e1 e2, hS.opq, hSlt b e2]
          · rw [hM2h b (by omega), ← hs.sim.opq, hN b (by omega)]
    refine ⟨_, _, v, M2, hK, inr_new hlt, rfl, hst, hsim2, ?_⟩
    cases hr with
    | ref _ _ _ _ _ _ hle hp h1 =>
      refine .ref _ _ _ _ _ _ (by rw [hM2t]; exact Nat.le_refl _) (fun _ => ?_) h1
      rw [hM2t]
      exact hp (by rw [hS.ver, hSN])

theorem run_callFunc {f : FuncId} {vs : Array Value} (hf : goodFn P f = true) : (callFunc f vs).run P w = .ok (.enter f vs) w := by
  unfold goodFn at hf
  split at hf
  · rename_i fn hfn
    simp only [Bool.and_eq_true, Bool.not_eq_true', beq_eq_false_iff_ne, ne_eq] at hf
    have hb : ¬ fn.body = none := by intro hb; rw [hb] at hf; simp at hf
    simp [callFunc, hfn, hf.2, hb]
  · cases hf

theorem reps_args (hs : SimA s a w M) (args : Array Operand) : Reps w M ((args.toList.map opd).map s.val) (args.map a.eval) := by
  refine ⟨by simp, fun i d v hd hv => ?_⟩
  simp only [List.map_map, List.getElem?_map, Array.getElem?_toList, Array.getElem?_map, Option.map_eq_some_iff] at hd hv
  obtain ⟨x, hx, rfl⟩ := hd
  obtain ⟨y, hy, rfl⟩ := hv
  rw [hx] at hy; injection hy with hy; subst hy
  exact val_rep hs x

theorem reps_append {ds es : List D} {us vs : Array Value} (h1 : Reps w M ds us) (h2 : Reps w M es vs) : Reps w M (ds ++ es) (us ++ vs) := by
  refine ⟨by simp [h1.size, h2.size], fun i d v hd hv => ?_⟩
  by_cases hi : i < ds.length
  · rw [List.getElem?_append_left hi] at hd
    rw [Array.getElem?_append_left (by rw [h1.size]; exact hi)] at hv
    exact h1.rep i d v hd hv
  · rw [List.getElem?_append_right (by omega)] at hd
    rw [Array.getElem?_append_right (by rw [h1.size]; omega), h1.size] at hv
    exact h2.rep _ d v hd hv

theorem compBin_call {op : BinOp} {t : TypeId} {x y : Operand} : isCall (compBin P op t x y) = false := by
  unfold compBin
  repeat' split
  all_goals rfl

theorem comp_call {op : Op} (h : isCall (comp P op) = true) : ∃ c v, op = .call c ∧ c.callee = .value v ∧
    ((∃ f, v = .func f ∧ comp P op = .call f (c.args.toList.map opd)) ∨ comp P op = .callv (opd v) (c.args.toList.map opd)) := by
  cases op with
  | call c =>
    cases hc : c.callee with
    | value v =>
      refine ⟨c, v, rfl, hc, ?_⟩
      cases v with
      | func f => exact .inl ⟨f, rfl, by simp only [comp, hc]⟩
      | _ => exact .inr (by simp only [comp, hc])
    | invoke r m => simp only [comp, hc] at h; cases h
    | builtin b =>
      simp only [comp, hc] at h
      exfalso
      cases b <;> simp only at h <;> (repeat' (split at h)) <;> cases h
  | binOp op t x y ty => simp only [comp] at h; rw [compBin_call] at h; cases h
  | makeFunc fn first caps =>
    exfalso
    cases fn <;> simp only [comp] at h <;> (repeat' (split at h)) <;> cases h
  | makeMap t r => exfalso; cases r <;> simp only [comp] at h <;> cases h
  | lookup t x ix ok => exfalso; cases ok <;> simp only [comp] at h <;> (repeat' (split at h)) <;> cases h
  | _ => exfalso; simp only [comp] at h; (repeat' (split at h)) <;> cases h

theorem stepO_sound {ops : Array Oper} {K : D → Chg → Prop} {Q : Exit → Act → World → Prop} (hs : SimA s a w M) (h : stepO P (aoper P ops o) s K) : OpOk P s o a w M K Q := by
  unfold stepO at h
  split at h
  · rename_i f args hop
    have hop' : comp P o.op = .call f args := hop
    obtain ⟨c, v, ho, hc, hv⟩ := comp_call (P := P) (op := o.op) (by rw [hop']; rfl)
    rw [hop'] at hv
    rcases hv with ⟨g, hvg, hv⟩ | hv
    · injection hv with h1 h2
      subst h1; subst h2
      refine calls_op hs (vs := c.args.map a.eval) ?_ (reps_args hs c.args) h
      have hcf := run_callFunc (P := P) (w := w) (vs := c.args.map a.eval) h.1
      simp [execOp, ho, resolve, hc, hvg, Act.eval, Deferred.ofValue, invoke]
      simpa using hcf
    · cases hv
  · rename_i x args hop
    have hop' : comp P o.op = .callv x args := hop
    obtain ⟨c, v, ho, hc, hv⟩ := comp_call (P := P) (op := o.op) (by rw [hop']; rfl)
    rw [hop'] at hv
    rcases hv with ⟨g, hvg, hv⟩ | hv
    · cases hv
    · injection hv with h1 h2
      subst h1; subst h2
      have hx := val_rep hs v
      split at h
      · rename_i f caps hxv
        rw [hxv] at hx
        generalize hve : a.eval v = u at hx
        cases hx with
        | fn _ _ vs hl hr =>
          refine calls_op hs (vs := c.args.map a.eval ++ vs) ?_ (reps_append (reps_args hs c.args) ⟨hl, hr⟩) h
          have hcf := run_callFunc (P := P) (w := w) (vs := c.args.map a.eval ++ vs) h.1
          simp [execOp, ho, resolve, hc, hve, Deferred.ofValue, invoke]
          simpa using hcf
      · exact h.elim
  · exact op_of_good hs (run_sound hs h)

/-- the operations, one after the other -/
theorem aops_sound {ops : Array Oper} {K : St → Prop} {Q : Exit → Act → World → Prop} : ∀ (l : List Oper) (s : St) (a : Act) (w : World) (M : Ctx) (n0 : Nat) (w0 : World) (M0 : Ctx), s.n = n0 → SimA s a w M → Grows n0 w0 M0 w M →
    aops P (l.map (aoper P ops)) s K → (∀ s' a' w' M', s'.n = n0 → K s' → SimA s' a' w' M' → Grows n0 w0 M0 w' M' → Q .normal a' w') → wpList P ops Q l a w
  | [], s, a, w, M, n0, w0, M0, hn, hs, hg, h, hQ => hQ s a w M hn h hs hg
  | o :: l, s, a, w, M, n0, w0, M0, hn, hs, hg, h, hQ => by
    subst hn
    have next : ∀ (hw : Region.wanted o (yielded ops a.tmps) = true), stepO P (aoper P ops o) s (fun d δ => aops P (l.map (aoper P ops)) (s.fin o.dst d δ) K) → wpList P ops Q (o :: l) a w := by
      intro hw hstep
      unfold wpList
      rw [if_pos hw]
      left
      refine Oper.wp_mono (fun a' w' ⟨d, δ, v, M', hK, hδ, ha, hst, hsim, hr⟩ => ?_) (stepO_sound (ops := ops) (Q := Q) hs hstep)
      subst ha
      exact aops_sound l (s.fin o.dst d δ) _ w' M' s.n w0 M0 rfl (simA_put hs hst hr hδ hsim o.dst) (hg.trans (hst.grows _)) hK hQ
    simp only [List.map_cons, aops] at h
    split at h
    · rename_i hgd
      refine next ?_ h
      have : o.guard = none := by
        simp only [aoper, aguard] at hgd
        split at hgd
        · assumption
        · split at hgd <;> cases hgd
      simp [Region.wanted, this]
    · rename_i t want hgd
      obtain ⟨j, hgo, hj⟩ : ∃ j, o.guard = some (j, want) ∧ (ops[j]?).bind (·.dst) = some t := by
        simp only [aoper, aguard] at hgd
        split at hgd
        · cases hgd
        · rename_i j want' hgo
          split at hgd
          · rename_i t' hj
            injection hgd with h1 h2
            subst h1; subst h2
            exact ⟨j, hgo, hj⟩
          · cases hgd
      split at h
      · rename_i b hb
        rw [condG_iff] at h
        have hy : yielded ops a.tmps j = some b := by
          have ht : t < s.sl.length := by
            refine Nat.lt_of_not_le fun hle => ?_
            simp [nth, List.getD, List.getElem?_eq_none hle] at hb
          have h1 := nth_get ht
          rw [hb] at h1
          have ht2 : t < a.tmps.size := by rw [hs.size]; exact ht
          have h2 := hs.sl t _ a.tmps[t] h1 (by simp [ht2])
          generalize hv : a.tmps[t] = v at h2
          cases h2 with
          | bool _ =>
            unfold yielded
            rw [hj]
            simp [ht2, hv]
        by_cases hbw : b = want
        · refine next ?_ (h.1 hbw)
          simp [Region.wanted, hgo, hy, hbw]
        · have hnw : Region.wanted o (yielded ops a.tmps) = false := by
            simp [Region.wanted, hgo, hy, hbw]
          unfold wpList
          rw [hnw]
          simp only [Bool.false_eq_true, if_false]
          obtain ⟨h1, h2⟩ := step_same (w' := w) hs.sim rfl
          exact aops_sound l (s.fin o.dst (.tup []) []) (a.put o.dst undef) w M s.n w0 M0 rfl (simA_put hs h1 (.tup [] #[] rfl fun i c v h => by simp at h) (δ := []) (by simp [St.inr]) hs.sim o.dst) hg (h.2 hbw) hQ
      · rename_i hb
        have hy : yielded ops a.tmps j = none := by
          have ht : t < s.sl.length := by
            refine Nat.lt_of_not_le fun hle => ?_
            simp [nth, List.getD, List.getElem?_eq_none hle] at hb
          have h1 := nth_get ht
          rw [hb] at h1
          have ht2 : t < a.tmps.size := by rw [hs.size]; exact ht
          have h2 := hs.sl t _ a.tmps[t] h1 (by simp [ht2])
          generalize hv : a.tmps[t] = v at h2
          cases h2 with
          | tup _ vs _ _ =>
            unfold yielded
            rw [hj]
            simp [ht2, hv]
        have hnw : Region.wanted o (yielded ops a.tmps) = false := by
          simp [Region.wanted, hgo, hy]
        unfold wpList
        rw [hnw]
        simp only [Bool.false_eq_true, if_false]
        obtain ⟨h1, h2⟩ := step_same (w' := w) hs.sim rfl
        exact aops_sound l (s.fin o.dst (.tup []) []) (a.put o.dst undef) w M s.n w0 M0 rfl (simA_put hs h1 (.tup [] #[] rfl fun i c v h => by simp at h) (δ := []) (by simp [St.inr]) hs.sim o.dst) hg h hQ
      · exact h.elim
    · exact h.elim

theorem awp_region {id : Nat} {ops : Array Oper} {Q : Exit → St → Prop} (h : aops P (ops.toList.map (aoper P ops)) s (Q .normal)) : Awp P (.region id ops false) Q s := by
  intro a w M hs
  exact wp_region_list (aops_sound ops.toList s a w M s.n w M rfl hs (.refl ..) h fun s' a' w' M' hn hK hs' hg => ⟨s', M', hn, hK, hs', hg⟩)

theorem awp_cond {c : Operand} {x y : Code} {Q : Exit → St → Prop} (h : match s.val (opd c) with
    | .bool b => (b = true → Awp P x Q s) ∧ (b = false → Awp P y Q s)
    | .abool => Awp P x Q s ∧ Awp P y Q s
    | _ => False) : Awp P (.cond c x y) Q s := by
  intro a w M hs
  have hc := val_rep hs c
  split at h
  · rename_i b hv
    rw [hv] at hc
    generalize hve : a.eval c = u at hc
    cases hc with
    | bool _ => exact wp_cond_split hve (fun hb => h.1 hb a w M hs) (fun hb => h.2 hb a w M hs)
  · rename_i hv
    rw [hv] at hc
    generalize hve : a.eval c = u at hc
    cases hc with
    | abool b => exact wp_cond_split hve (fun _ => h.1 a w M hs) (fun _ => h.2 a w M hs)
  · exact h.elim

end Abs
end Go.Proofs.Ytokdeeagghhliaa

namespace Go.Proofs.Ytokdeeagghhliaa
namespace Abs
set_option linter.unusedVariables false

/-- where a new local block comes from -/
inductive Src1 where
  | hole
  | nil
  | old (t : Nat)

structure Wx where
  n : Nat
  lc : List Blk
  g : List Src1
  lc' : List Blk

/-- a value that tells less -/
inductive Wk (X : Wx) : D → D → Prop
  | top (d : D) : Wk X d .top
  | low (d : D) (h : Low X.n d) : Wk X d d
  | ref (sz t i ver ver' off len : Nat) (hg : X.g[i]? = some (.old t)) (hv : (X.lc.getD t blk0).ver = ver) (hv' : (X.lc'.getD i blk0).ver = ver') : Wk X (.ref sz (X.n + t) ver off len) (.ref sz (X.n + i) ver' off len)
  | ptr (t i ver ver' off : Nat) (hg : X.g[i]? = some (.old t)) (hv : (X.lc.getD t blk0).ver = ver) (hv' : (X.lc'.getD i blk0).ver = ver') : Wk X (.ptr (X.n + t) ver off) (.ptr (X.n + i) ver' off)
  | map (t i ver ver' : Nat) (hg : X.g[i]? = some (.old t)) (hv : (X.lc.getD t blk0).ver = ver) (hv' : (X.lc'.getD i blk0).ver = ver') : Wk X (.map (X.n + t) ver) (.map (X.n + i) ver')
  | nils (sz i ver' : Nat) (hg : X.g[i]? = some .nil) (hv' : (X.lc'.getD i blk0).ver = ver') : Wk X .nils (.ref sz (X.n + i) ver' 0 0)
  | nilsLst : Wk X .nils (.lst [])
  | empLst : Wk X .emp (.lst [])
  | nilsEmp : Wk X .nils .emp
  | frz (sz t ver off len : Nat) (cs l : List D) (hb : X.lc[t]? = some ⟨ver, .cells cs⟩) (hg : Src1.old t ∉ X.g) (hlen : l.length = len) (hfit : off + len * sz ≤ cs.length)
      (hsz : ∀ d ∈ l, d.cells.length = sz) (h : ∀ (i : Nat) (d : D), l[i]? = some d → ∀ (j : Nat) (e : D), d.cells[j]? = some e → Wk X (nth cs (off + i * sz + j)) e) : Wk X (.ref sz (X.n + t) ver off len) (.lst l)
  | frzp (t ver off : Nat) (cs l : List D) (hb : X.lc[t]? = some ⟨ver, .cells cs⟩) (hne : cs ≠ []) (hg : Src1.old t ∉ X.g) (hfit : off + l.length ≤ cs.length)
      (h : ∀ (j : Nat) (e : D), l[j]? = some e → Wk X (nth cs (off + j)) e) : Wk X (.ptr (X.n + t) ver off) (.adr l)
  | agg (cs cs' : List D) (hl : cs'.length = cs.length) (h : ∀ (i : Nat) (c c' : D), cs[i]? = some c → cs'[i]? = some c' → Wk X c c') : Wk X (.agg cs) (.agg cs')
  | tup (cs cs' : List D) (hl : cs'.length = cs.length) (h : ∀ (i : Nat) (c c' : D), cs[i]? = some c → cs'[i]? = some c' → Wk X c c') : Wk X (.tup cs) (.tup cs')
  | fn (f : FuncId) (cs cs' : List D) (hl : cs'.length = cs.length) (h : ∀ (i : Nat) (c c' : D), cs[i]? = some c → cs'[i]? = some c' → Wk X c c') : Wk X (.fn f cs) (.fn f cs')
  | bool (b : Bool) : Wk X (.bool b) .abool

def BlkWk (X : Wx) : Src1 → Blk → Prop
  | .hole, ⟨_, .none⟩ => True
  | .nil, ⟨v, .cells []⟩ => 1 ≤ v
  | .old t, ⟨v, .cells cs'⟩ => 1 ≤ v ∧ ∃ cs, (X.lc.getD t blk0).con = .cells cs ∧ cs'.length ≤ cs.length ∧ ∀ (j : Nat) (d' : D), cs'[j]? = some d' → Wk X (nth cs j) d'
  | .old t, ⟨v, .map es'⟩ => 1 ≤ v ∧ ∃ es, (X.lc.getD t blk0).con = .map es ∧ es'.length = es.length ∧ ∀ (i : Nat) (e e' : List Int × D), es[i]? = some e → es'[i]? = some e' → e'.1 = e.1 ∧ Wk X e.2 e'.2
  | _, _ => False

structure WxOk (X : Wx) : Prop where
  len : X.lc'.length = X.g.length
  blk : ∀ (i : Nat) (x : Src1) (k : Blk), X.g[i]? = some x → X.lc'[i]? = some k → BlkWk X x k
  inj : ∀ (i j t : Nat), X.g[i]? = some (.old t) → X.g[j]? = some (.old t) → i = j

def LowH (n : Nat) (h : Heap) : Prop := ∀ b, b < n → match (h b).con with
  | .none => True
  | .veil => True
  | .cells cs => ∀ c ∈ cs, Low n c
  | .map es => ∀ e ∈ es, Low n e.2

def wkM (X : Wx) (M : Ctx) : Ctx := fun b => if b < X.n then M b else
  match X.g[b - X.n]? with
  | some (.old t) => ⟨(X.lc'.getD (b - X.n) blk0).ver, (M (X.n + t)).loc, false⟩
  | some .nil => ⟨(X.lc'.getD (b - X.n) blk0).ver, some (.nil none), false⟩
  | some .hole => ⟨(X.lc'.getD (b - X.n) blk0).ver, none, false⟩
  | none => hole

section
variable {X : Wx} {w : World} {M : Ctx} {h : Heap}

theorem wkM_lt {b : Nat} (hb : b < X.n) : wkM X M b = M b := by simp [wkM, hb]
theorem wkM_old {i t : Nat} (hg : X.g[i]? = some (.old t)) : wkM X M (X.n + i) = ⟨(X.lc'.getD i blk0).ver, (M (X.n + t)).loc, false⟩ := by
  simp [wkM, hg, Nat.not_lt.2 (Nat.le_add_right X.n i)]
theorem wkM_nil {i : Nat} (hg : X.g[i]? = some .nil) : wkM X M (X.n + i) = ⟨(X.lc'.getD i blk0).ver, some (.nil none), false⟩ := by
  simp [wkM, hg, Nat.not_lt.2 (Nat.le_add_right X.n i)]

theorem wkM_loc {b c base : Nat} (hl : (wkM X M b).loc = some (.mem c base)) : ∃ b0, (M b0).loc = some (.mem c base) ∧ ((b < X.n ∧ b0 = b) ∨ ∃ t, X.n ≤ b ∧ X.g[b - X.n]? = some (.old t) ∧ b0 = X.n + t) := by
  unfold wkM at hl
  split at hl
  · rename_i hb; exact ⟨b, hl, .inl ⟨hb, rfl⟩⟩
  · rename_i hb
    split at hl
    · rename_i t hg; exact ⟨_, hl, .inr ⟨t, by omega, hg, rfl⟩⟩
    · simp at hl
    · simp at hl
    · simp [hole] at hl

theorem wkM_occ {c : Nat} (hl : Occ (wkM X M) c) : Occ M c := by
  obtain ⟨b, base, hl⟩ := hl
  obtain ⟨b0, h0, _⟩ := wkM_loc hl
  exact ⟨b0, base, h0⟩

theorem wkM_hole (hX : WxOk X) {b : Nat} (hb : X.n ≤ b) (h0 : (wkM X M b).ver = 0) : (wkM X M b).loc = none := by
  have hnb : ¬ b < X.n := by omega
  unfold wkM at h0 ⊢
  rw [if_neg hnb] at h0 ⊢
  have hk : ∀ x, X.g[b - X.n]? = some x → ∃ k, X.lc'[b - X.n]? = some k ∧ (X.lc'.getD (b - X.n) blk0) = k ∧ BlkWk X x k := fun x hx => by
    have hlt : b - X.n < X.lc'.length := by rw [hX.len]; exact (List.getElem?_eq_some_iff.1 hx).1
    exact ⟨X.lc'[b - X.n], by simp [hlt], by simp [List.getD, hlt], hX.blk _ _ _ hx (by simp [hlt])⟩
  split at h0
  · rename_i t hg
    obtain ⟨k, _, h2, h3⟩ := hk _ hg
    simp only [h2] at h0
    obtain ⟨v, con⟩ := k
    cases con <;> simp only [BlkWk] at h3 <;> first | exact h3.elim | (simp only at h0; omega)
  · rename_i hg
    obtain ⟨k, _, h2, h3⟩ := hk _ hg
    simp only [h2] at h0
    obtain ⟨v, con⟩ := k
    cases con with
    | cells cs => cases cs <;> simp only [BlkWk] at h3; simp only at h0; omega
    | _ => simp only [BlkWk] at h3
  · rfl
  · rfl

theorem wk_rep (hX : WxOk X) (hs : Sim w M (mrg X.n h X.lc)) {d d' : D} (hw : Wk X d d') : ∀ {v : Value}, Rep w M d v → Rep w (wkM X M) d' v := by
  have hver : ∀ t, (M (X.n + t)).ver = (X.lc.getD t blk0).ver := fun t => by rw [hs.ver, mrg_loc]
  induction hw with
  | top d => exact fun _ => .top _
  | low d hl => exact fun hr => hr.relow (fun b ver hp hle => by
      by_cases hb : b < X.n
      · rw [wkM_lt hb]; exact ⟨hle, fun e => .inr ⟨e, rfl⟩⟩
      · have h0 := hp.resolve_left hb
        subst h0
        exact ⟨Nat.zero_le _, fun e => .inl (wkM_hole hX (by omega) e)⟩) (fun c => wkM_occ) hl
  | ref sz t i ver ver' off len hg hv hv' =>
    intro v hr
    cases hr with
    | ref _ _ _ _ _ _ hle hp h1 =>
      refine .ref _ _ _ _ _ _ (by rw [wkM_old hg]; exact Nat.le_of_eq hv'.symm) (fun _ => ?_) h1
      rw [wkM_old hg]
      exact hp (by rw [hver, hv])
  | ptr t i ver ver' off hg hv hv' =>
    intro v hr
    cases hr with
    | ptr _ _ _ _ hle hp h1 =>
      refine .ptr _ _ _ _ (by rw [wkM_old hg]; exact Nat.le_of_eq hv'.symm) (fun _ => ?_) h1
      rw [wkM_old hg]
      exact hp (by rw [hver, hv])
  | map t i ver ver' hg hv hv' =>
    intro v hr
    cases hr with
    | map _ _ _ hle hp h1 =>
      refine .map _ _ _ (by rw [wkM_old hg]; exact Nat.le_of_eq hv'.symm) (fun _ => ?_) h1
      rw [wkM_old hg]
      exact hp (by rw [hver, hv])
  | nils sz i ver' hg hv' =>
    intro v hr
    cases hr with
    | nils => exact .ref _ _ _ _ _ _ (by rw [wkM_nil hg]; exact Nat.le_of_eq hv'.symm) (fun _ => by rw [wkM_nil hg]; exact ⟨rfl, rfl, rfl⟩) ⟨_, _, _, rfl⟩
  | nilsLst => intro v hr; cases hr with | nils => exact .lst0 _ _
  | empLst => intro v hr; cases hr with | emp a => exact .lst0 _ _
  | nilsEmp => intro v hr; cases hr with | nils => exact .emp _
  | bool b => intro v hr; cases hr with | bool _ => exact .abool _
  | agg cs cs' hl _ ih =>
    intro v hr
    cases hr with
    | agg _ vs hl2 hr2 =>
      refine .agg _ _ (by rw [hl2, hl]) fun i c' v hc' hv => ?_
      have hi : i < cs.length := by rw [← hl]; exact (List.getElem?_eq_some_iff.1 hc').1
      exact ih i _ c' (nth_get hi) hc' (hr2 i _ v (nth_get hi) hv)
  | tup cs cs' hl _ ih =>
    intro v hr
    cases hr with
    | tup _ vs hl2 hr2 =>
      refine .tup _ _ (by rw [hl2, hl]) fun i c' v hc' hv => ?_
      have hi : i < cs.length := by rw [← hl]; exact (List.getElem?_eq_some_iff.1 hc').1
      exact ih i _ c' (nth_get hi) hc' (hr2 i _ v (nth_get hi) hv)
  | fn f cs cs' hl _ ih =>
    intro v hr
    cases hr with
    | fn _ _ vs hl2 hr2 =>
      refine .fn _ _ _ (by rw [hl2, hl]) fun i c' v hc' hv => ?_
      have hi : i < cs.length := by rw [← hl]; exact (List.getElem?_eq_some_iff.1 hc').1
      exact ih i _ c' (nth_get hi) hc' (hr2 i _ v (nth_get hi) hv)
  | frz sz t ver off len cs l hb hg hlen hfit hsz _ ih =>
    intro v hr
    have hblk : mrg X.n h X.lc (X.n + t) = ⟨ver, .cells cs⟩ := by rw [mrg_loc]; simp [List.getD, hb]
    have hM1 := hs.ver (X.n + t)
    have hM2 := hs.con (X.n + t)
    rw [hblk] at hM1 hM2
    cases hr with
    | ref _ _ _ _ _ _ hle hp h1 =>
      have hp' := hp hM1
      have hempty : ∀ a, v = .slice a 0 0 → len = 0 → Rep w (wkM X M) (.lst l) v := fun a hv h0 => by
        subst hv; subst h0
        have : l = [] := List.eq_nil_of_length_eq_zero hlen
        subst this
        exact .lst0 _ _
      rcases hM2 with ⟨a, hloc, _⟩ | ⟨c, base, C, e, hloc, hc, hszC, hrep⟩
      · rw [hloc] at hp'; exact hempty a hp'.2.2 hp'.2.1
      · rw [hloc] at hp'
        rcases hp' with ⟨h0, a, hv⟩ | ⟨cap, rfl, hcap, hroom⟩
        · exact hempty a hv h0
        · subst hlen
          have hnl : ¬ Occ (wkM X M) c := by
            rintro ⟨b, base', hl⟩
            obtain ⟨b0, h0, hb0⟩ := wkM_loc hl
            have hbe := hs.inj b0 (X.n + t) c base' base h0 hloc
            rcases hb0 with ⟨h1, h2⟩ | ⟨t', h1, h2, h3⟩
            · omega
            · have : t' = t := by omega
              subst this
              exact hg (List.mem_of_getElem? h2)
          have hcl : c < w.heap.size := (Array.getElem?_eq_some_iff.1 hc).1
          refine .lst l ⟨c, base + off, none⟩ cap sz (fun i j => C.getD (base + (off + i * sz + j)) undef) hcap rfl hcl hnl hsz (fun i d hd j e he => ?_) (fun i d hd j e he => ?_)
          · have hi : i < l.length := (List.getElem?_eq_some_iff.1 hd).1
            have hj : j < sz := by rw [← hsz d (List.mem_of_getElem? hd)]; exact (List.getElem?_eq_some_iff.1 he).1
            have hle : (i + 1) * sz ≤ l.length * sz := Nat.mul_le_mul_right _ hi
            rw [Nat.add_mul] at hle
            rw [Addr.lit_add]
            have hlt : base + (off + i * sz + j) < C.size := by omega
            simp only [World.cell?, hc]
            rw [show base + off + (i * sz + j) = base + (off + i * sz + j) by omega]
            simp [hlt]
          · have hi : i < l.length := (List.getElem?_eq_some_iff.1 hd).1
            have hj : j < sz := by rw [← hsz d (List.mem_of_getElem? hd)]; exact (List.getElem?_eq_some_iff.1 he).1
            have hle : (i + 1) * sz ≤ l.length * sz := Nat.mul_le_mul_right _ hi
            rw [Nat.add_mul] at hle
            have hlt : off + i * sz + j < cs.length := by omega
            obtain ⟨u, hu1, hu2⟩ := hrep _ _ (nth_get hlt)
            have : C.getD (base + (off + i * sz + j)) undef = u := by
              rw [Array.getD_eq_getD_getElem?, hu1]; rfl
            rw [this]
            exact ih i d hd j e he hu2
  | frzp t ver off cs l hb hne hg hfit _ ih =>
    intro v hr
    have hblk : mrg X.n h X.lc (X.n + t) = ⟨ver, .cells cs⟩ := by rw [mrg_loc]; simp [List.getD, hb]
    have hM1 := hs.ver (X.n + t)
    have hM2 := hs.con (X.n + t)
    rw [hblk] at hM1 hM2
    cases hr with
    | ptr _ _ _ _ hle hp h1 =>
      have hp' := hp hM1
      rcases hM2 with ⟨a, hloc, hcs⟩ | ⟨c, base, C, e, hloc, hc, hszC, hrep⟩
      · exact absurd hcs hne
      · rw [hloc] at hp'
        simp only [PtrOk] at hp'
        subst hp'
        have hnl : ¬ Occ (wkM X M) c := by
          rintro ⟨b, base', hl⟩
          obtain ⟨b0, h0, hb0⟩ := wkM_loc hl
          have hbe := hs.inj b0 (X.n + t) c base' base h0 hloc
          rcases hb0 with ⟨h1, h2⟩ | ⟨t', h1, h2, h3⟩
          · omega
          · have : t' = t := by omega
            subst this
            exact hg (List.mem_of_getElem? h2)
        have hcl : c < w.heap.size := (Array.getElem?_eq_some_iff.1 hc).1
        refine .adr l ⟨c, base + off, none⟩ (fun j => C.getD (base + (off + j)) undef) rfl hcl hnl (fun j e he => ?_) (fun j e he => ?_)
        · have hj : j < l.length := (List.getElem?_eq_some_iff.1 he).1
          rw [Addr.lit_add]
          have hlt : base + (off + j) < C.size := by omega
          simp only [World.cell?, hc]
          rw [show base + off + j = base + (off + j) by omega]
          simp [hlt]
        · have hj : j < l.length := (List.getElem?_eq_some_iff.1 he).1
          have hlt : off + j < cs.length := by omega
          obtain ⟨u, hu1, hu2⟩ := hrep _ _ (nth_get hlt)
          have : C.getD (base + (off + j)) undef = u := by
            rw [Array.getD_eq_getD_getElem?, hu1]; rfl
          rw [this]
          exact ih j e he hu2

theorem wk_con (hX : WxOk X) (hs : Sim w M (mrg X.n h X.lc)) {loc : Option Loc} {cs cs' : List D} (hc : ConOk w M loc (.cells cs)) (hl : cs'.length ≤ cs.length)
    (hwk : ∀ (j : Nat) (d' : D), cs'[j]? = some d' → Wk X (nth cs j) d') : ConOk w (wkM X M) loc (.cells cs') := by
  rcases hc with ⟨a, h1, h2⟩ | ⟨c, base, C, e, h1, h2, h3, h4⟩
  · subst h2
    exact .inl ⟨a, h1, List.eq_nil_of_length_eq_zero (by simpa using hl)⟩
  · refine .inr ⟨c, base, C, e, h1, h2, by omega, fun j d' hd' => ?_⟩
    have hj : j < cs.length := Nat.lt_of_lt_of_le (List.getElem?_eq_some_iff.1 hd').1 hl
    obtain ⟨v, hv, hr⟩ := h4 j _ (nth_get hj)
    exact ⟨v, hv, wk_rep hX hs (hwk j d' hd') hr⟩

theorem wk_sim (hX : WxOk X) (hlow : LowH X.n h) (hs : Sim w M (mrg X.n h X.lc)) : Sim w (wkM X M) (mrg X.n h X.lc') where
  ver b := by
    by_cases hb : b < X.n
    · rw [wkM_lt hb, hs.ver, mrg_lt hb, mrg_lt hb]
    · have hb' : mrg X.n h X.lc' b = X.lc'.getD (b - X.n) blk0 := by simp [mrg, hb]
      rw [hb']
      unfold wkM
      rw [if_neg hb]
      split
      · rfl
      · rfl
      · rfl
      · rename_i hg
        have : X.lc'[b - X.n]? = none := by
          rw [List.getElem?_eq_none_iff, hX.len]; exact List.getElem?_eq_none_iff.1 hg
        simp [this, hole, blk0]
  con b := by
    by_cases hb : b < X.n
    · rw [wkM_lt hb, mrg_lt hb]
      have hc := hs.con b
      rw [mrg_lt hb] at hc
      have hl := hlow b hb
      cases hcon : (h b).con with
      | none => rw [hcon] at hc; exact hc
      | veil => rw [hcon] at hc; exact hc
      | cells cs =>
        rw [hcon] at hc hl
        exact wk_con hX hs hc (Nat.le_refl _) fun j d' hd' => by rw [nth_of hd']; exact .low _ (hl d' (List.mem_of_getElem? hd'))
      | map es =>
        rw [hcon] at hc hl
        obtain ⟨c, E, cl, h1, h2, h3, h4⟩ := hc
        exact ⟨c, E, cl, h1, h2, h3, fun i x e hx he => ⟨(h4 i x e hx he).1, wk_rep hX hs (.low _ (hl _ (List.mem_of_getElem? he))) (h4 i x e hx he).2⟩⟩
    · have hb' : mrg X.n h X.lc' b = X.lc'.getD (b - X.n) blk0 := by simp [mrg, hb]
      rw [hb']
      have hk : ∀ x, X.g[b - X.n]? = some x → BlkWk X x (X.lc'.getD (b - X.n) blk0) := fun x hx => by
        have hlt : b - X.n < X.lc'.length := by rw [hX.len]; exact (List.getElem?_eq_some_iff.1 hx).1
        have := hX.blk _ x X.lc'[b - X.n] hx (by simp [hlt])
        simpa [List.getD, hlt] using this
      unfold wkM
      rw [if_neg hb]
      split
      · rename_i t hg
        have h1 := hk _ hg
        have hold := hs.con (X.n + t)
        rw [mrg_loc] at hold
        generalize X.lc'.getD (b - X.n) blk0 = k at h1
        obtain ⟨v, con⟩ := k
        cases con with
        | none => exact h1.elim
        | veil => exact h1.elim
        | cells cs' =>
          obtain ⟨_, cs, hcs, hle, hwk⟩ := h1
          rw [hcs] at hold
          exact wk_con hX hs hold hle hwk
        | map es' =>
          obtain ⟨_, es, hes, hsc, hwk⟩ := h1
          rw [hes] at hold
          obtain ⟨c, E, cl, h1, h2, h3, h4⟩ := hold
          refine ⟨c, E, cl, h1, h2, by omega, fun i x e' hx he' => ?_⟩
          have hi : i < es.length := by have := (List.getElem?_eq_some_iff.1 he').1; omega
          obtain ⟨q1, q2⟩ := hwk i es[i] e' (by simp [hi]) he'
          obtain ⟨q3, q4⟩ := h4 i x es[i] hx (by simp [hi])
          exact ⟨by rw [q1]; exact q3, wk_rep hX hs q2 q4⟩
      · rename_i hg
        have h1 := hk _ hg
        generalize X.lc'.getD (b - X.n) blk0 = k at h1
        obtain ⟨v, con⟩ := k
        cases con with
        | cells cs =>
          cases cs with
          | nil => exact .inl ⟨none, rfl, rfl⟩
          | cons c cs => exact h1.elim
        | none => exact h1.elim
        | veil => exact h1.elim
        | map es => exact h1.elim
      · rename_i hg
        have h1 := hk _ hg
        generalize X.lc'.getD (b - X.n) blk0 = k at h1
        obtain ⟨v, con⟩ := k
        cases con with
        | none => rfl
        | veil => exact h1.elim
        | cells cs => exact h1.elim
        | map es => exact h1.elim
      · rename_i hg
        have : X.lc'[b - X.n]? = none := by
          rw [List.getElem?_eq_none_iff, hX.len]; exact List.getElem?_eq_none_iff.1 hg
        simp only [List.getD, this, Option.getD_none, blk0, hole]
        rfl
  inj b b' c base base' h1 h2 := by
    obtain ⟨b0, e0, k0⟩ := wkM_loc h1
    obtain ⟨b1, e1, k1⟩ := wkM_loc h2
    have := hs.inj b0 b1 c base base' e0 e1
    rcases k0 with ⟨k0, rfl⟩ | ⟨t, k0, g0, rfl⟩ <;> rcases k1 with ⟨k1, rfl⟩ | ⟨t', k1, g1, rfl⟩
    · exact this
    · omega
    · omega
    · have ht : t = t' := by omega
      subst ht
      have := hX.inj _ _ t g0 g1
      omega
  opq b := by
    by_cases hb : b < X.n
    · rw [wkM_lt hb, mrg_lt hb, hs.opq, mrg_lt hb]
    · have hb' : mrg X.n h X.lc' b = X.lc'.getD (b - X.n) blk0 := by simp [mrg, hb]
      rw [hb']
      unfold wkM
      rw [if_neg hb]
      have hk : ∀ x, X.g[b - X.n]? = some x → BlkWk X x (X.lc'.getD (b - X.n) blk0) := fun x hx => by
        have hlt : b - X.n < X.lc'.length := by rw [hX.len]; exact (List.getElem?_eq_some_iff.1 hx).1
        have := hX.blk _ x X.lc'[b - X.n] hx (by simp [hlt])
        simpa [List.getD, hlt] using this
      have hnv : ∀ x, X.g[b - X.n]? = some x → (X.lc'.getD (b - X.n) blk0).con.isOpq = false := fun x hx => by
        have h1 := hk x hx
        generalize X.lc'.getD (b - X.n) blk0 = k at h1
        obtain ⟨v, con⟩ := k
        cases con with
        | veil => cases x <;> exact h1.elim
        | _ => rfl
      split
      · rename_i t hg; exact (hnv _ hg).symm
      · rename_i hg; exact (hnv _ hg).symm
      · rename_i hg; exact (hnv _ hg).symm
      · rename_i hg
        have : X.lc'[b - X.n]? = none := by
          rw [List.getElem?_eq_none_iff, hX.len]; exact List.getElem?_eq_none_iff.1 hg
        simp only [List.getD, this, Option.getD_none, blk0, hole]
        rfl

theorem wk_grows (hX : WxOk X) (hs : Sim w M (mrg X.n h X.lc)) : Grows X.n w M w (wkM X M) where
  size := Nat.le_refl _
  ver b hb := by rw [wkM_lt hb]; exact Nat.le_refl _
  loc b hb _ := by rw [wkM_lt hb]; exact .inr rfl
  occ c _ hl := wkM_occ hl
  live c _ hl := by
    obtain ⟨b, base, hl, ho⟩ := hl
    obtain ⟨b0, h0, hb0⟩ := wkM_loc hl
    refine ⟨b0, base, h0, ?_⟩
    rcases hb0 with ⟨h1, rfl⟩ | ⟨t, h1, hg, rfl⟩
    · rw [wkM_lt h1] at ho; exact ho
    · rw [hs.opq, mrg_loc]
      have hlt : b - X.n < X.lc'.length := by rw [hX.len]; exact (List.getElem?_eq_some_iff.1 hg).1
      have hk := hX.blk _ _ X.lc'[b - X.n] hg (by simp [hlt])
      generalize X.lc'[b - X.n] = k at hk
      obtain ⟨v, con⟩ := k
      cases con with
      | cells cs' => obtain ⟨_, cs, hcs, _⟩ := hk; rw [hcs]; rfl
      | map es' => obtain ⟨_, es, hes, _⟩ := hk; rw [hes]; rfl
      | none => exact hk.elim
      | veil => exact hk.elim
  imm c _ _ := rfl
  shape c _ C' e' fr' hh := ⟨C', e', fr', hh, rfl⟩
  opq b hb _ := wkM_lt hb
  same := .refl w
end

/-- a state that tells less: some slots, and blocks that are dropped or renamed -/
theorem le_wk {n : Nat} {sl sl' : List D} {h : Heap} {lc lc' : List Blk} (g : List Src1) (hlow : LowH n h) (hX : WxOk ⟨n, lc, g, lc'⟩) (hl : sl'.length = sl.length)
    (hwk : ∀ (t : Nat) (d d' : D), sl[t]? = some d → sl'[t]? = some d' → Wk ⟨n, lc, g, lc'⟩ d d') : Le ⟨n, sl, h, lc⟩ ⟨n, sl', h, lc'⟩ := by
  refine ⟨rfl, fun a w M hs => ⟨wkM ⟨n, lc, g, lc'⟩ M, ⟨hs.defers, by rw [hs.size, hl], fun t d' v hd' hv => ?_, wk_sim hX hlow hs.sim⟩, wk_grows (X := ⟨n, lc, g, lc'⟩) hX hs.sim⟩⟩
  have ht : t < sl.length := by rw [← hl]; exact (List.getElem?_eq_some_iff.1 hd').1
  exact wk_rep hX hs.sim (hwk t _ d' (nth_get ht) hd') (hs.sl t _ v (nth_get ht) hv)

end Abs
end Go.Proofs.Ytokdeeagghhliaa

namespace Go.Proofs.Ytokdeeagghhliaa
namespace Abs
set_option linter.unusedVariables false

inductive AR where
  | tmp (t : Nat)
  | cell (t : Nat) (agg : Bool) (k : Nat)
  | bad

def compR (P : Program) : ResultVar → AR
  | .tmp t => .tmp t
  | .cell a t => match P.info? t, P.underlying t with
    | some i, some d => if i.size == 0 then .bad else .cell a (isAggD d) i.size
    | _, _ => .bad

def resVal (s : St) (r : AR) (K : D → Prop) : Prop :=
  match r with
  | .tmp t => K (nth s.sl t)
  | .cell t agg k => match nth s.sl t with
    | .adr cs => ld agg k cs 0 K
    | .ptr b ver off => s.at b ver fun cs => ld agg k cs off K
    | _ => False
  | .bad => False

def resAll (s : St) : List AR → (List D → Prop) → Prop
  | [], K => K []
  | r :: rs, K => resVal s r fun d => resAll s rs fun ds => K (d :: ds)

def tupD : List D → D
  | [d] => d
  | ds => .tup ds

/-- what a function hands back: its result, told as little as wanted, and the blocks that come with it -/
def Fin (s : St) (R : D → Heap → List Blk → Prop) (ds : List D) : Prop :=
  LowH s.n s.h ∧ ∃ (g : List Src1) (x : List Blk) (d : D), WxOk ⟨s.n, s.lc, g, x⟩ ∧ Wk ⟨s.n, s.lc, g, x⟩ (tupD ds) d ∧ (∀ k ∈ x, 1 ≤ k.ver) ∧ R d s.h x

def FnQ (rs : List AR) (R : D → Heap → List Blk → Prop) : Exit → St → Prop
  | .normal, s => resAll s rs (Fin s R)
  | .ret, s => resAll s rs (Fin s R)
  | _, _ => False

variable {P : Program} {s : St} {a : Act} {w : World} {M : Ctx}

def rv (tmps : Array Value) : ResultVar → Sem Value
  | .tmp t => pure (tmps.getD t undef)
  | .cell a t => do loadVar t (← asAddr (tmps.getD a undef))

theorem results_eq (fn : Func) (tmps : Array Value) : results fn tmps = (do let vs ← fn.results.mapM (rv tmps); pure (if h : vs.size = 1 then vs[0] else .tuple vs)) := by
  unfold results
  have : (fun r : ResultVar => (match r with | .tmp t => pure (tmps.getD t undef) | .cell a t => do loadVar t (← asAddr (tmps.getD a undef)) : Sem Value)) = rv tmps := by
    funext r; cases r <;> rfl
  rw [← this]
  rfl

theorem resVal_sound {r : ResultVar} (hs : SimA s a w M) {K : D → Prop} (h : resVal s (compR P r) K) :
    ∃ v d, (rv a.tmps r).run P w = .ok v w ∧ Rep w M d v ∧ K d := by
  cases r with
  | tmp t => exact ⟨_, _, rfl, val_rep hs (.tmp t), h⟩
  | cell b t =>
    simp only [compR] at h
    split at h
    · rename_i i td hi hd
      split at h
      · exact h.elim
      · rename_i h0
        simp only [beq_iff_eq] at h0
        have hx : Rep w M (nth s.sl b) (a.tmps.getD b undef) := val_rep hs (.tmp b)
        simp only [resVal] at h
        split at h
        · rename_i cs hv
          rw [hv] at hx
          generalize hve : a.tmps.getD b undef = v at hx
          cases hx with
          | adr cs ad u hsp hb hlive hcell hr =>
            obtain ⟨v, d, hrun, hrep, hK⟩ := load_rep (w := w) (M := M) hi hd (ad := ad) (fun j e he => ⟨u j, hcell j e he, hr j e he⟩) h
            have hz : ad.add 0 = ad := by simp [Addr.add]
            rw [hz] at hrun
            exact ⟨v, d, by rw [rv, hve, Sem.run_bind, asAddr, Sem.run_pure, Result.andThen_ok, hrun], hrep, hK⟩
        · rename_i b' ver off hv
          rw [hv] at hx
          obtain ⟨cs, hb, hQ⟩ := at_spec h
          have hne : cs ≠ [] := by
            rintro rfl
            unfold ld at hQ
            split at hQ
            · simp at hQ; omega
            · simp at hQ
          obtain ⟨hver, c, base, C, e, hl, hc, hsz, hrep⟩ := at_mem hs hb hne
          have hve := rep_ptr hx hver hl
          obtain ⟨v, d, hrun, hrep', hK⟩ := load_rep (w := w) (M := M) hi hd (ad := ⟨c, base, none⟩) (fun j e he => by
            obtain ⟨v, h1, h2⟩ := hrep j e he
            exact ⟨v, cell_of hc h1, h2⟩) hQ
          rw [Addr.lit_add] at hrun
          exact ⟨v, d, by rw [rv, hve, Sem.run_bind, asAddr, Sem.run_pure, Result.andThen_ok, hrun], hrep', hK⟩
        · exact h.elim
    · exact h.elim

theorem resAll_sound (hs : SimA s a w M) : ∀ (rs : List ResultVar) (K : List D → Prop), resAll s (rs.map (compR P)) K →
    ∃ (vs : List Value) (ds : List D), (rs.mapM (rv a.tmps)).run P w = .ok vs w ∧ Two (Rep w M) ds vs ∧ K ds
  | [], K, h => ⟨[], [], by simp, .nil, h⟩
  | r :: rs, K, h => by
    obtain ⟨v, d, hrun, hr, h'⟩ := resVal_sound (P := P) hs h
    obtain ⟨vs, ds, hrun2, h2, hK⟩ := resAll_sound hs rs _ h'
    exact ⟨v :: vs, d :: ds, by rw [List.mapM_cons]; simp only [Sem.run_bind, hrun, Result.andThen_ok, hrun2, Sem.run_pure], .cons hr h2, hK⟩

theorem two_tup {ds : List D} {vs : List Value} (h : Two (Rep w M) ds vs) : Rep w M (tupD ds) (if h : vs.toArray.size = 1 then vs.toArray[0] else .tuple vs.toArray) := by
  have hlen : ∀ {ds : List D} {vs : List Value}, Two (Rep w M) ds vs → vs.length = ds.length ∧ ∀ (i : Nat) (d : D) (v : Value), ds[i]? = some d → vs[i]? = some v → Rep w M d v := by
    intro ds vs h
    induction h with
    | nil => exact ⟨rfl, by simp⟩
    | cons h _ ih =>
      refine ⟨by simp [ih.1], fun i d v hd hv => ?_⟩
      cases i with
      | zero => simp at hd hv; subst hd; subst hv; exact h
      | succ i => exact ih.2 i d v (by simpa using hd) (by simpa using hv)
  obtain ⟨h1, h2⟩ := hlen h
  by_cases hone : vs.length = 1
  · cases h with
    | nil => simp at hone
    | cons hr ht =>
      cases ht with
      | nil => simpa [tupD] using hr
      | cons _ _ => simp at hone
  · have h3 : ¬ (vs.toArray.size = 1) := by simpa using hone
    rw [dif_neg h3]
    have h4 : tupD ds = .tup ds := by
      cases ds with
      | nil => rfl
      | cons d ds => cases ds with
        | nil => simp at h1; omega
        | cons e ds => rfl
    rw [h4]
    exact .tup _ _ (by simpa using h1) fun i d v hd hv => h2 i d v hd (by simpa using hv)

/-- what a heap holds names no block beyond it -/
theorem low_of_sim {n : Nat} {h : Heap} {w : World} {M : Ctx} (hsim : Sim w M (mrg n h [])) : LowH n h := by
  have hhigh : ∀ b, n ≤ b → (M b).ver = 0 := fun b hb => by
    rw [hsim.ver]; simp [mrg, Nat.not_lt.2 hb, blk0]
  intro b hb
  have hc := hsim.con b
  rw [mrg_lt hb] at hc
  cases hcon : (h b).con with
  | none => trivial
  | veil => trivial
  | cells cs =>
    rw [hcon] at hc
    intro d hd
    obtain ⟨j, hj⟩ := List.mem_iff_getElem?.1 hd
    rcases hc with ⟨_, _, h2⟩ | ⟨_, _, _, _, _, _, _, h4⟩
    · rw [h2] at hd; cases hd
    · obtain ⟨v, _, hr⟩ := h4 j d hj; exact hr.low hhigh
  | map es =>
    rw [hcon] at hc
    intro e he
    obtain ⟨_, E, _, _, _, h3, h4⟩ := hc
    obtain ⟨i, hi⟩ := List.mem_iff_getElem?.1 he
    have hlt : i < E.size := by rw [h3]; exact (List.getElem?_eq_some_iff.1 hi).1
    exact (h4 i E[i] e (by simp [hlt]) hi).2.low hhigh

/-- a function's contract, out of its body's run -/
theorem acalls_of_awp {f : FuncId} {fn : Func} {c : Code} {ds : List D} {n : Nat} {h : Heap} {R : D → Heap → List Blk → Prop} (hf : P.funcs[f]? = some fn) (hb : fn.body = some c) (hname : (fn.name == "runtime.NumGoroutine") = false)
    (hbody : LowH n h → Awp P c (FnQ (fn.results.toList.map (compR P)) R) ⟨n, ds ++ List.replicate (fn.ntmps - ds.length) .top, h, List.replicate fn.ntmps blk0⟩) : ACalls P f ds n h R := by
  refine ⟨by simp [goodFn, hf, hb, hname], fun w M vs hsim hreps => ?_⟩
  have hhigh : ∀ b, n ≤ b → (M b).ver = 0 := fun b hb => by
    rw [hsim.ver]; simp [mrg, Nat.not_lt.2 hb, blk0]
  have hlow : LowH n h := low_of_sim hsim
  have hmrg : mrg n h (List.replicate fn.ntmps blk0) = mrg n h [] := by
    funext b
    unfold mrg
    split
    · rfl
    · simp only [List.getD, List.getElem?_replicate]
      split <;> rfl
  refine calls_of_wp hf hb (wp_mono (hbody hlow _ w M ⟨rfl, ?_, ?_, ?_⟩) ?_)
  · simp [hreps.size]
  · intro t d v hd hv
    simp only at hd hv
    by_cases ht : t < ds.length
    · rw [List.getElem?_append_left ht] at hd
      rw [Array.getElem?_append_left (by rw [hreps.size]; exact ht)] at hv
      exact hreps.rep t d v hd hv
    · rw [List.getElem?_append_right (by omega), List.getElem?_replicate] at hd
      split at hd
      · injection hd with hd; subst hd; exact .top _
      · cases hd
  · show Sim w M (mrg n h (List.replicate fn.ntmps blk0))
    rw [hmrg]; exact hsim
  · intro e a' w' ⟨s', M', hn, hq, hs', hg⟩
    have hfin : resAll s' (fn.results.toList.map (compR P)) (Fin s' R) → a'.defers = [] ∧ ∃ v, (results fn a'.tmps).run P w' = .ok v w' ∧
        ∃ v2 d h' x M', Ending.returned v = .returned v2 ∧ R d h' x ∧ (∀ k ∈ x, 1 ≤ k.ver) ∧ Sim w' M' (mrg n h' x) ∧ Rep w' M' d v2 ∧ Grows n w M w' M' := by
      intro hres
      obtain ⟨vs, ds', hrun, htwo, hfin⟩ := resAll_sound (P := P) hs' fn.results.toList _ hres
      refine ⟨hs'.defers, (if h : vs.toArray.size = 1 then vs.toArray[0] else .tuple vs.toArray), ?_, ?_⟩
      · rw [results_eq, Array.mapM_eq_mapM_toList]
        simp only [Sem.run_bind, Sem.run_map, hrun, Result.andThen_ok, Sem.run_pure]
      · obtain ⟨hlow', g, x, d, hX, hwk, hx, hR⟩ := hfin
        have hn' : s'.n = n := hn
        refine ⟨_, d, s'.h, x, wkM ⟨s'.n, s'.lc, g, x⟩ M', rfl, hR, hx, ?_, wk_rep hX hs'.sim hwk (two_tup htwo), ?_⟩
        · have := wk_sim hX hlow' hs'.sim
          rw [← hn']; exact this
        · rw [← hn']
          have hg1 : Grows s'.n w M w' M' := by rw [hn']; exact hg
          exact hg1.trans (wk_grows (X := ⟨s'.n, s'.lc, g, x⟩) hX hs'.sim)
    cases e with
    | normal => exact hfin hq
    | ret => exact hfin hq
    | exit id => exact hq.elim
    | goto l => exact hq.elim
    | panic ch => exact hq.elim
    | outgrown => exact hq.elim

end Abs
end Go.Proofs.Ytokdeeagghhliaa
