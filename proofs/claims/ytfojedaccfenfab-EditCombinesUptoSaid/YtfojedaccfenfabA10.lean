/- What the operations' abstract run says holds of the model's run: values built, slices made and appended to. -/
import Derived.Test.YtfojedaccfenfabA9
namespace Go.Proofs.Ytfojedaccfenfab
namespace Abs
variable {P : Program} {s : St} {o : Oper} {a : Act} {w : World} {M : Ctx} {K : D → Chg → Prop}

def RepC (w : World) (M : Ctx) (cs : List D) (C : Array Value) : Prop :=
  C.size = cs.length ∧ ∀ (j : Nat) (d : D) (v : Value), cs[j]? = some d → C[j]? = some v → Rep w M d v

theorem RepC.ex {cs : List D} {C : Array Value} (h : RepC w M cs C) : ∀ (j : Nat) (d : D), cs[j]? = some d → ∃ v, C[j]? = some v ∧ Rep w M d v := fun j d hd => by
  have hj : j < C.size := by rw [h.1]; exact (List.getElem?_eq_some_iff.1 hd).1
  exact ⟨C[j], by simp [hj], h.2 j d _ hd (by simp [hj])⟩

theorem litD_cells (w : World) (M : Ctx) (z : Value) : RepC w M (litD z).cells z.cells := by
  by_cases hsol : (litD z).solid = true
  · exact rep_solid (litD_rep w M z) hsol
  · have hna : ∀ cs, z ≠ .agg cs := by rintro cs rfl; simp [litD, D.solid] at hsol
    have h1 : litD z = litC z := by
      unfold litD
      split
      · exact absurd rfl (hna _)
      · rfl
    have h2 : litC z = .top := by
      rw [h1] at hsol
      unfold litC at hsol ⊢
      split <;> first | rfl | (simp [D.solid] at hsol)
    have h3 : z.cells = #[z] := by cases z <;> first | rfl | exact absurd rfl (hna _)
    rw [h1, h2, h3]
    refine ⟨rfl, fun j d v hd hv => ?_⟩
    cases j with
    | zero => simp [D.cells] at hd; subst hd; exact .top _
    | succ j => simp [D.cells] at hd

theorem flat_get {α : Type} (l : List α) (hl : l ≠ []) : ∀ (k j : Nat), ((List.replicate k l).flatten)[j]? = if j < k * l.length then l[j % l.length]? else none
  | 0, j => by simp
  | k + 1, j => by
    have hpos : 0 < l.length := List.length_pos_iff.2 hl
    simp only [List.replicate_succ, List.flatten_cons]
    by_cases h : j < l.length
    · rw [List.getElem?_append_left h, if_pos (by rw [Nat.add_mul]; omega), Nat.mod_eq_of_lt h]
    · rw [List.getElem?_append_right (by omega), flat_get l hl k]
      have h1 : (j - l.length) % l.length = j % l.length := by
        have := Nat.add_mod_right (j - l.length) l.length
        rw [Nat.sub_add_cancel (by omega)] at this
        exact this.symm
      rw [h1]
      by_cases h2 : j - l.length < k * l.length
      · rw [if_pos h2, if_pos (by rw [Nat.add_mul]; omega)]
      · rw [if_neg h2, if_neg (by rw [Nat.add_mul]; omega)]

theorem flat_len {α : Type} (l : List α) (k : Nat) : ((List.replicate k l).flatten).length = k * l.length := by
  induction k with
  | zero => simp
  | succ k ih => simp only [List.replicate_succ, List.flatten_cons, List.length_append, ih, Nat.add_mul]; omega

/-- a row of zero values -/
theorem zeros_rep (w : World) (M : Ctx) (z : Value) (hz : z.cells.size ≠ 0) (k n : Nat) (hn : k * z.cells.size ≤ n) : ∀ (j : Nat) (d : D), ((List.replicate k (litD z).cells).flatten)[j]? = some d →
    ∃ v, ((Array.range n).map fun i => z.cells[i % z.cells.size]!)[j]? = some v ∧ Rep w M d v := by
  intro j d hd
  obtain ⟨h1, h2⟩ := litD_cells w M z
  have hne : (litD z).cells ≠ [] := by intro h; rw [h] at h1; exact hz h1
  rw [flat_get _ hne] at hd
  split at hd
  · rename_i hj
    rw [← h1] at hj hd
    have hlt : j % z.cells.size < z.cells.size := Nat.mod_lt _ (by omega)
    refine ⟨z.cells[j % z.cells.size], ?_, h2 _ d _ hd (by simp [hlt])⟩
    have hjn : j < n := by omega
    simp [hjn, hlt]
  · cases hd

theorem range0 (f : Nat → Value) : Array.map f (Array.range 0) = #[] := by apply Array.ext'; simp

theorem sound_mkslice {t e : TypeId} {x y : Operand} {i : TypeInfo} {z : Value} (hs : SimA s a w M) (ho : o.op = .makeSlice t x y) (ht : P.underlying t = some (.slice e)) (hi : P.info? e = some i) (hz : i.zero = some z) (hzs : z.cells.size = i.size) (h0 : i.size ≠ 0)
    (h : run s o.dst K (.mkslice i.size i.bytes (litD z).cells (opd x) (opd y))) : Good P s o a w M K := by
  simp only [run] at h
  have hx := val_rep hs x
  have hy := val_rep hs y
  split at h
  · rename_i n c hv hv2
    rw [hv] at hx
    rw [hv2] at hy
    obtain ⟨hn0, hnc, hcb, hc63, hnew⟩ := h
    generalize hve : a.eval x = u at hx
    generalize hve2 : a.eval y = u2 at hy
    cases hx with
    | int _ _ => cases hy with
      | int _ _ =>
        have hw1 : IntKind.i64.wrap n = n := IntWalk.i64_in n (by omega)
        have hw2 : IntKind.i64.wrap c = c := IntWalk.i64_in c (by omega)
        have e1 : ¬ (c < 0) := by omega
        have e2 : ¬ (n < 0) := by omega
        have e3 : ¬ (c < n) := by omega
        have e4 : ¬ ((281474976710656 : Int) < (i.bytes : Int) * c) := by rw [Int.mul_comm]; omega
        obtain ⟨t', ht', hlt, hnv, hQ⟩ := new_spec hnew
        have hrun : (execOp a.eval o).run P w = .ok (.value (.slice (some ⟨w.heap.size, 0, none⟩) n.toNat c.toNat)) (w.alloc (.cells ((Array.range (c.toNat * i.size)).map fun i => z.cells[i % z.cells.size]!) e)) := by
          simp [execOp, ho, hve, hve2, Instr.makeSlice, run_underlying ht, asInt, asIntOf, run_info w hi, hw1, hw2, e1, e2, e3, e4, run_sizeOf w hi, newRow]
          by_cases hc0 : c.toNat = 0
          · have : c.toNat * i.size = 0 := by rw [hc0]; simp
            simp [hc0, range0]
          · have : ¬ (c.toNat * i.size = 0) := by rw [Nat.mul_eq_zero]; omega
            rw [if_neg this]
            simp [run_zero w hi hz]
        have hlen : ((List.replicate n.toNat (litD z).cells).flatten).length ≤ ((Array.range (c.toNat * i.size)).map fun i => z.cells[i % z.cells.size]!).size := by
          rw [flat_len, ← (litD_cells w M z).1, hzs]
          simp
          exact Nat.mul_le_mul_right _ (by omega)
        obtain ⟨hst, hsim⟩ := sim_new (w' := w.alloc (.cells ((Array.range (c.toNat * i.size)).map fun i => z.cells[i % z.cells.size]!) e)) hs.sim (s.n + t') hnv _ e rfl _ hlen
          (zeros_rep w M z (by omega) n.toNat _ (by rw [hzs]; exact Nat.mul_le_mul_right _ (by omega)))
        refine ⟨_, _, _, _, _, hQ, inr_new hlt, .inl hrun, hst, hsim, .ref _ _ _ _ _ _ (by simp [updM]) (fun _ => ?_) ⟨_, _, _, rfl⟩⟩
        simp only [updM, if_true]
        refine .inr ⟨c.toNat, rfl, by omega, fun C' e' fr' hc' => ?_⟩
        simp only [World.alloc, Array.getElem?_push_size, Option.some.injEq, Obj.cells.injEq] at hc'
        rw [← hc'.1]
        simp
  · exact h.elim

theorem fold_set (off : Nat) : ∀ (vs : List Value) (m : Nat) (C : Array Value) (k : Nat),
    ((vs.zipIdx m).foldl (fun cs (p : Value × Nat) => cs.setIfInBounds (off + p.2) p.1) C)[k]? = if off + m ≤ k ∧ k < off + m + vs.length ∧ k < C.size then vs[k - off - m]? else C[k]?
  | [], m, C, k => by
    rw [if_neg (by simp only [List.length_nil]; omega)]
    rfl
  | v :: vs, m, C, k => by
    simp only [List.zipIdx_cons, List.foldl_cons]
    rw [fold_set off vs (m + 1)]
    simp only [Array.size_setIfInBounds, List.length_cons]
    by_cases h1 : off + (m + 1) ≤ k ∧ k < off + (m + 1) + vs.length ∧ k < C.size
    · rw [if_pos h1, if_pos (by omega)]
      have : k - off - m = (k - off - (m + 1)) + 1 := by omega
      rw [this, List.getElem?_cons_succ]
    · rw [if_neg h1]
      by_cases h2 : off + m = k
      · subst h2
        by_cases h3 : off + m < C.size
        · rw [if_pos (by omega)]
          simp [h3]
        · rw [if_neg (by omega)]
          simp [h3]
      · rw [if_neg (by omega), Array.getElem?_setIfInBounds_ne h2]

inductive Two {α β : Type} (R : α → β → Prop) : List α → List β → Prop
  | nil : Two R [] []
  | cons {x : α} {y : β} {l : List α} {m : List β} (h : R x y) (ht : Two R l m) : Two R (x :: l) (y :: m)

theorem fill_rep {place : Nat → Option (Nat × Nat)} (hs : SimA s a w M) : ∀ (ps : List (Nat × Operand)) (qs : List (Nat × Nat × Opd)),
    Two (fun p q => place p.1 = some (q.1, q.2.1) ∧ q.2.2 = opd p.2) ps qs → ∀ (cs : List D) (C : Array Value) (Q : List D → Prop), RepC w M cs C →
    fillD cs (qs.map fun q => (q.1, q.2.1, s.val q.2.2)) Q → ∃ cs' C', Instr.fill place C (ps.map fun p => (p.1, a.eval p.2)) = some C' ∧ RepC w M cs' C' ∧ Q cs' := by
  intro ps qs hf
  induction hf with
  | nil => exact fun cs C Q hC h => ⟨cs, C, rfl, hC, h⟩
  | @cons p q ps qs hpq _ ih =>
    intro cs C Q hC h
    simp only [List.map_cons, fillD] at h
    obtain ⟨hsol, hlen, hfit, hrest⟩ := h
    rw [hpq.2] at hsol hlen hrest
    obtain ⟨h1, h2⟩ := rep_solid (val_rep hs p.2) hsol
    have hC1 : RepC w M (splice cs q.1 (s.val (opd p.2)).cells) ((a.eval p.2).cells.zipIdx.foldl (fun cs (x : Value × Nat) => cs.setIfInBounds (q.1 + x.2) x.1) C) := by
      have hsize : ∀ (l : List (Value × Nat)) (C : Array Value), (l.foldl (fun cs (x : Value × Nat) => cs.setIfInBounds (q.1 + x.2) x.1) C).size = C.size := by
        intro l
        induction l with
        | nil => intro C; rfl
        | cons x l ihl => intro C; simp only [List.foldl_cons]; rw [ihl]; simp
      refine ⟨?_, fun j d v hd hv => ?_⟩
      · rw [← Array.foldl_toList, hsize, splice_length (by omega)]; exact hC.1
      · rw [← Array.foldl_toList, Array.toList_zipIdx, fold_set] at hv
        rw [splice_get (by omega)] at hd
        have hcs := hC.1
        simp only [Nat.add_zero, Array.length_toList, Nat.sub_zero] at hv
        by_cases h3 : j < q.1
        · rw [if_pos h3] at hd
          rw [if_neg (by omega)] at hv
          exact hC.2 j d v hd hv
        · rw [if_neg h3] at hd
          by_cases h4 : j < q.1 + (s.val (opd p.2)).cells.length
          · rw [if_pos h4] at hd
            rw [if_pos (by omega)] at hv
            exact h2 _ d v hd (by simpa using hv)
          · rw [if_neg h4] at hd
            rw [if_neg (by omega)] at hv
            exact hC.2 j d v hd hv
    obtain ⟨cs', C', h3, h4, h5⟩ := ih _ _ Q hC1 hrest
    refine ⟨cs', C', ?_, h4, h5⟩
    simp only [List.map_cons, Instr.fill, hpq.1]
    rw [if_neg (by simp; have := hC.1; omega)]
    exact h3

theorem mapM_some {α β : Type} {f : α → Option β} {g : α → β} : ∀ {l : List α}, (∀ x ∈ l, f x = some (g x)) → l.mapM f = some (l.map g)
  | [], _ => rfl
  | x :: l, h => by
    rw [List.mapM_cons, h x (by simp), mapM_some fun y hy => h y (by simp [hy])]
    rfl

theorem forall_mapM {α β : Type} {R : α → β → Prop} {f : α → Option β} (hf : ∀ x y, f x = some y → R x y) : ∀ {l : List α} {m : List β}, l.mapM f = some m → Two R l m
  | [], m, h => by simp at h; subst h; exact .nil
  | x :: l, m, h => by
    rw [List.mapM_cons] at h
    cases hx : f x with
    | none => simp [hx] at h
    | some y =>
      cases hl : l.mapM f with
      | none => simp [hx, hl] at h
      | some r =>
        simp [hx, hl] at h
        subst h
        exact .cons (hf x y hx) (forall_mapM hf hl)

theorem forall_map {α β : Type} {R : α → β → Prop} {f : α → β} (hf : ∀ x, R x (f x)) : ∀ (l : List α), Two R l (l.map f)
  | [] => .nil
  | x :: l => .cons (hf x) (forall_map hf l)

theorem sound_build_struct {t : TypeId} {parts : Array (Nat × Operand)} {fs : Array Field} {i : TypeInfo} {z : Array Value} {ps : List (Nat × Nat × Opd)} (hs : SimA s a w M) (ho : o.op = .build t parts) (ht : P.underlying t = some (.struct fs)) (hi : P.info? t = some i) (hz : i.zero = some (.agg z))
    (hall : ∀ f ∈ fs.toList, (P.info? f.type).isSome = true) (hps : parts.toList.mapM (fun p => (fs[p.1]?).bind fun f => (P.info? f.type).map fun i => (f.offset, i.size, opd p.2)) = some ps)
    (h : run s o.dst K (.build (litD (.agg z)).cells ps)) : Good P s o a w M K := by
  simp only [run] at h
  have hpl : fs.toList.mapM (fun f => (P.info? f.type).map fun i => (f.offset, i.size)) = some (fs.toList.map fun f => (f.offset, P.cellsOf f.type)) :=
    mapM_some fun f hf => by
      obtain ⟨i, hi⟩ := Option.isSome_iff_exists.1 (hall f hf)
      simp [hi, Program.cellsOf]
  have hforall : Two (fun (p : Nat × Operand) (q : Nat × Nat × Opd) => ((fs.toList.map fun f => (f.offset, P.cellsOf f.type)).toArray[p.1]?) = some (q.1, q.2.1) ∧ q.2.2 = opd p.2) parts.toList ps :=
    forall_mapM (fun p q hq => by
      cases hf : fs[p.1]? with
      | none => simp [hf] at hq
      | some f =>
        cases hfi : P.info? f.type with
        | none => simp [hf, hfi] at hq
        | some fi =>
          simp [hf, hfi] at hq
          subst hq
          simp [hf, Program.cellsOf, hfi]) hps
  obtain ⟨cs', C', h1, h2, h3⟩ := fill_rep hs parts.toList ps hforall _ _ _ (litD_cells w M (.agg z)) h
  have hb : P.built t (parts.map fun p => (p.1, a.eval p.2)).toList = some C' := by
    simp only [Program.built, hi, ht, hz, hpl]
    rw [Array.toList_map]
    exact h1
  exact good_same hs (v := .agg C') (by simp [execOp, ho, run_build w t _ C' hb]) (.agg _ _ h2.1 h2.2) h3

theorem sound_build_array {t e : TypeId} {n : Nat} {parts : Array (Nat × Operand)} {i ie : TypeInfo} {z : Array Value} (hs : SimA s a w M) (ho : o.op = .build t parts) (ht : P.underlying t = some (.array n e)) (hi : P.info? t = some i) (hz : i.zero = some (.agg z)) (hie : P.info? e = some ie)
    (h : run s o.dst K (.build (litD (.agg z)).cells (parts.toList.map fun p => (p.1 * ie.size, ie.size, opd p.2)))) : Good P s o a w M K := by
  simp only [run] at h
  obtain ⟨cs', C', h1, h2, h3⟩ := fill_rep (place := fun i => some (i * ie.size, ie.size)) hs parts.toList _ (forall_map (fun p => ⟨rfl, rfl⟩) _) _ _ _ (litD_cells w M (.agg z)) h
  have hb : P.built t (parts.map fun p => (p.1, a.eval p.2)).toList = some C' := by
    simp only [Program.built, hi, ht, hz, hie]
    simpa using h1
  exact good_same hs (v := .agg C') (by simp [execOp, ho, run_build w t _ C' hb]) (.agg _ _ h2.1 h2.2) h3

theorem sound_buildSlice {t e : TypeId} {len : Nat} {parts : Array (Nat × Operand)} {i : TypeInfo} {z : Value} (hs : SimA s a w M) (ho : o.op = .buildSlice t len parts) (ht : P.underlying t = some (.slice e)) (hi : P.info? e = some i) (hz : i.zero = some z) (hzs : z.cells.size = i.size) (h0 : i.size ≠ 0) (hlim : len * i.size ≤ 16777216)
    (h : run s o.dst K (.buildSlice i.size (litD z).cells len (parts.toList.map fun p => (p.1 * i.size, i.size, opd p.2)))) : Good P s o a w M K := by
  simp only [run] at h
  have hrep0 : RepC w M (List.replicate len (litD z).cells).flatten ((Array.range (len * i.size)).map fun i => z.cells[i % z.cells.size]!) := by
    refine ⟨by rw [flat_len, ← (litD_cells w M z).1, hzs]; simp, fun j d v hd hv => ?_⟩
    obtain ⟨u, hu, hr⟩ := zeros_rep w M z (by omega) len (len * i.size) (by rw [hzs]; exact Nat.le_refl _) j d hd
    rw [hu] at hv; injection hv with hv; subst hv; exact hr
  obtain ⟨cs', C', h1, h2, h3⟩ := fill_rep (place := fun j => some (j * i.size, i.size)) hs parts.toList _ (forall_map (fun p => ⟨rfl, rfl⟩) _) _ _ _ hrep0 h
  obtain ⟨t', ht', hlt, hnv, hQ⟩ := new_spec h3
  have hfillsize : ∀ (ps : List (Nat × Value)) (C C' : Array Value), Instr.fill (fun j => some (j * i.size, i.size)) C ps = some C' → C'.size = C.size := by
    intro ps
    induction ps with
    | nil => intro C C' h; simp [Instr.fill] at h; rw [h]
    | cons p ps ih =>
      intro C C' h
      simp only [Instr.fill] at h
      split at h
      · cases h
      · rw [ih _ _ h, ← Array.foldl_toList]
        have hsz : ∀ (l : List (Value × Nat)) (C : Array Value), (l.foldl (fun cs (x : Value × Nat) => cs.setIfInBounds (p.1 * i.size + x.2) x.1) C).size = C.size := by
          intro l
          induction l with
          | nil => intro C; rfl
          | cons x l ihl => intro C; simp only [List.foldl_cons]; rw [ihl]; simp
        exact hsz _ _
  have hCs : C'.size = len * i.size := by rw [hfillsize _ _ _ h1]; simp
  have hrun : (execOp a.eval o).run P w = .ok (.value (.slice (some ⟨w.heap.size, 0, none⟩) len len)) (w.alloc (.cells C' e)) := by
    have hlim' : ¬ (16777216 < len * i.size) := by omega
    by_cases hl0 : len * i.size = 0
    · rw [hl0, range0] at h1
      have hl0' : len = 0 := by
        rcases Nat.mul_eq_zero.1 hl0 with h | h
        · exact h
        · exact absurd h h0
      subst hl0'
      simp [execOp, ho, Instr.buildSlice, run_underlying ht, run_sizeOf w hi, newRow, range0]
      rw [h1]
      simp
    · have hl1 : ¬ (len = 0) := by rintro rfl; simp at hl0
      simp [execOp, ho, Instr.buildSlice, run_underlying ht, run_sizeOf w hi, hlim', hl0, run_zero w hi hz, newRow]
      rw [h1]
      simp
  obtain ⟨hst, hsim⟩ := sim_new (w' := w.alloc (.cells C' e)) hs.sim (s.n + t') hnv C' e rfl cs' (Nat.le_of_eq h2.1.symm) h2.ex
  refine ⟨_, _, _, _, _, hQ, inr_new hlt, .inl hrun, hst, hsim, .ref _ _ _ _ _ _ (by simp [updM]) (fun _ => ?_) ⟨_, _, _, rfl⟩⟩
  simp only [updM, if_true]
  refine .inr ⟨len, rfl, Nat.le_refl _, fun C1 e' fr' hc' => ?_⟩
  simp only [World.alloc, Array.getElem?_push_size, Option.some.injEq, Obj.cells.injEq] at hc'
  rw [← hc'.1, hCs]
  simp

end Abs
end Go.Proofs.Ytfojedaccfenfab
