/- What the operations' abstract run says holds of the model's run: slices cut, made, grown; their lengths. -/
import Derived.Test.YtfojedaccfenfabA8
namespace Go.Proofs.Ytfojedaccfenfab
namespace Abs
variable {P : Program} {s : St} {o : Oper} {a : Act} {w : World} {M : Ctx} {K : D → Chg → Prop}

/-- the bounds of a slice expression, as the model computes them -/
theorem bounds_run (hs : SimA s a w M) {lo hi : Option Operand} {isSlice : Bool} {len cap : Nat} (hcap : len ≤ cap) {Q : Nat → Nat → Prop} (h : bounds ((lo.map opd).map s.val) ((hi.map opd).map s.val) len Q) :
    ∃ l r, l ≤ r ∧ r ≤ len ∧ (Instr.sliceBounds isSlice len cap (lo.map a.eval) (hi.map a.eval) none).run P w = .ok (l, r, cap) w ∧ Q l r := by
  have one : ∀ (x : Operand) (k : IntKind) (n : Int), s.val (opd x) = .int k n → a.eval x = .int k n := fun x k n hx => by
    have h := val_rep hs x
    rw [hx] at h
    generalize a.eval x = v at h ⊢
    cases h
    rfl
  have bd : ∀ (k : IntKind) (n : Int) (y : Nat) (code : BoundsCode), 0 ≤ n → n ≤ y → (Instr.sliceBound (.int k n) y code).run P w = .ok n.toNat w := fun k n y code h0 h1 => by
    simp [Instr.sliceBound, asIntOf, h0, h1]
  cases lo with
  | none =>
    cases hi with
    | none => exact ⟨0, len, Nat.zero_le _, Nat.le_refl _, by simp [Instr.sliceBounds], h⟩
    | some y =>
      simp only [Option.map_none, Option.map_some] at h ⊢
      unfold bounds at h
      split at h <;> first | (rename_i h1 h2; cases h1; done) | (rename_i h1 h2; cases h2; done) | (rename_i h1 h2 h3; cases h2; done) | skip
      · rename_i k n h1 h2
        injection h2 with h2
        obtain ⟨h0, hle, hQ⟩ := h
        exact ⟨0, n.toNat, Nat.zero_le _, by omega, by simp [Instr.sliceBounds, one y k n h2, bd k n cap _ h0 (by omega)], hQ⟩
      · exact h.elim
  | some x =>
    cases hi with
    | none =>
      simp only [Option.map_none, Option.map_some] at h ⊢
      unfold bounds at h
      split at h <;> first | (rename_i h1 h2; cases h1; done) | (rename_i h1 h2; cases h2; done) | skip
      · rename_i k n h1 h2
        injection h1 with h1
        obtain ⟨h0, hle, hQ⟩ := h
        exact ⟨n.toNat, len, by omega, Nat.le_refl _, by simp [Instr.sliceBounds, one x k n h1, bd k n len _ h0 (by omega)], hQ⟩
      · exact h.elim
    | some y =>
      simp only [Option.map_some] at h ⊢
      unfold bounds at h
      split at h <;> first | (rename_i h1 h2; cases h1; done) | (rename_i h1 h2; cases h2; done) | skip
      · rename_i k n k' m h1 h2
        injection h1 with h1
        injection h2 with h2
        obtain ⟨h0, hle, hle2, hQ⟩ := h
        exact ⟨n.toNat, m.toNat, by omega, by omega, by simp [Instr.sliceBounds, one x k n h1, one y k' m h2, bd k' m cap _ (by omega) (by omega), bd k n m.toNat _ h0 (by omega)], hQ⟩
      · exact h.elim

theorem sound_slice {t e : TypeId} {x : Operand} {lo hi : Option Operand} {i : TypeInfo} (hs : SimA s a w M) (ho : o.op = .slice t x lo hi none) (ht : P.underlying t = some (.slice e)) (hi' : P.info? e = some i)
    (h : run s o.dst K (.slice i.size (opd x) (lo.map opd) (hi.map opd))) : Good P s o a w M K := by
  simp only [run] at h
  have hx := val_rep hs x
  -- the run, once the bounds are known
  have go : ∀ (p : Option Addr) (len cap l r : Nat), a.eval x = .slice p len cap → (Instr.sliceBounds true len cap (lo.map a.eval) (hi.map a.eval) none).run P w = .ok (l, r, cap) w →
      (execOp a.eval o).run P w = .ok (.value (.slice (if cap = l then p else p.map (·.add (l * i.size))) (r - l) (cap - l))) w := by
    intro p len cap l r hv hb
    simp [execOp, ho, hv, Instr.sliceAt, run_underlying ht, Instr.slice, hb, run_sizeOf w hi']
  split at h
  · rename_i l hv
    rw [hv] at hx
    obtain ⟨hcells, hb⟩ := h
    generalize hve : a.eval x = v at hx
    cases hx with
    | lst0 p c =>
      obtain ⟨j, r, h1, h2, hrun, hK⟩ := bounds_run hs (P := P) (isSlice := true) (cap := c) (Nat.zero_le _) hb
      have hj : j = 0 := by simp at h2; omega
      have hr : r = 0 := by simp at h2; omega
      subst hj; subst hr
      have := go p 0 c 0 0 hve hrun
      refine good_same hs this ?_ hK
      simp
      split
      · exact .lst0 _ _
      · exact .lst0 _ _
    | lst _ ad c sz u hcc hsp hbk hlive hsz hcell hr =>
      obtain ⟨j, r, h1, h2, hrun, hK⟩ := bounds_run hs (P := P) (isSlice := true) hcc hb
      have hrun' := go (some ad) l.length c j r hve hrun
      refine good_same hs hrun' ?_ hK
      by_cases hjr : j = r
      · subst hjr
        simp only [Nat.sub_self, List.take_zero]
        exact .lst0 _ _
      · have hjc : ¬ c = j := by omega
        rw [if_neg hjc]
        have hlen : ((l.drop j).take (r - j)).length = r - j := by simp; omega
        have hmem : ∃ d, d ∈ l := ⟨l[j]'(by omega), List.getElem_mem _⟩
        have hszi : sz = i.size := by obtain ⟨d, hd⟩ := hmem; rw [← hsz d hd, hcells d hd]
        subst hszi
        have := Rep.lst (w := w) (M := M) ((l.drop j).take (r - j)) (ad.add (j * i.size)) (c - j) i.size (fun i' j' => u (j + i') j') (by rw [hlen]; omega) (by unfold Addr.add; split <;> simp_all)
          (by rw [Addr.block_add]; exact hbk) (by rw [Addr.block_add]; exact hlive) (fun d hd => hsz d (List.mem_of_mem_drop (List.mem_of_mem_take hd))) (fun i' d hd j' e' he' => by
            rw [List.getElem?_take] at hd
            split at hd
            · rw [List.getElem?_drop] at hd
              rw [Addr.add_add, ← Nat.add_assoc, ← Nat.add_mul]
              exact hcell _ d hd j' e' he'
            · cases hd) (fun i' d hd j' e' he' => by
            rw [List.getElem?_take] at hd
            split at hd
            · rw [List.getElem?_drop] at hd
              exact hr _ d hd j' e' he'
            · cases hd)
        rw [hlen] at this
        exact this
  · rename_i sz' b ver off len hv
    rw [hv] at hx
    obtain ⟨rfl, hat⟩ := h
    obtain ⟨cs, hb, hbd⟩ := at_spec hat
    have hM1 := hs.sim.ver b
    have hM2 := hs.sim.con b
    rw [hb] at hM1 hM2
    generalize hve : a.eval x = v at hx
    cases hx with
    | ref _ _ _ _ _ _ hle hp hv' =>
      have hp' := hp hM1
      -- an empty slice without room
      have empty : ∀ p, v = .slice p 0 0 → len = 0 → Good P s o a w M K := by
        intro p hvp hl0
        subst hl0
        subst hvp
        obtain ⟨j, r, h1, h2, hrun, hK⟩ := bounds_run hs (P := P) (isSlice := true) (Nat.le_refl 0) hbd
        have hj : j = 0 := by omega
        have hr : r = 0 := by omega
        subst hj; subst hr
        have hrun' := go p 0 0 0 0 hve hrun
        refine good_same hs hrun' ?_ hK
        simp
        exact .ref _ _ _ _ _ _ hle (fun hver => by
          have := hp hver
          rcases hM2 with ⟨a', hloc, _⟩ | ⟨c, base, C, e', hloc, _⟩
          · rw [hloc] at this ⊢; exact this
          · rw [hloc] at this ⊢; exact .inl ⟨rfl, _, rfl⟩) ⟨_, _, _, rfl⟩
      rcases hM2 with ⟨a', hloc, _⟩ | ⟨c, base, C, e', hloc, hc, hsz, hrep⟩
      · rw [hloc] at hp'
        exact empty a' hp'.2.2 hp'.2.1
      · rw [hloc] at hp'
        rcases hp' with ⟨h3, p, h4⟩ | ⟨cap, rfl, hcap, hroom⟩
        · exact empty p h4 h3
        · obtain ⟨j, r, h1, h2, hrun, hK⟩ := bounds_run hs (P := P) (isSlice := true) hcap hbd
          have hrun' := go _ len cap j r hve hrun
          refine good_same hs hrun' ?_ hK
          refine .ref _ _ _ _ _ _ hle (fun _ => ?_) ⟨_, _, _, rfl⟩
          rw [hloc]
          by_cases hcj : cap = j
          · left
            have : r = j := by omega
            subst this; subst hcj
            simp
          · right
            rw [if_neg hcj]
            refine ⟨cap - j, by simp [Addr.lit_add, Nat.add_assoc], by omega, fun C' e1 fr' hc' => ?_⟩
            have := hroom C' e1 fr' hc'
            have h5 : (cap - j) * i.size + j * i.size = cap * i.size := by rw [← Nat.add_mul]; congr 1; omega
            omega
  · rename_i hv
    rw [hv] at hx
    generalize hve : a.eval x = v at hx
    cases hx with
    | nils =>
      obtain ⟨j, r, h1, h2, hrun, hK⟩ := bounds_run hs (P := P) (isSlice := true) (Nat.le_refl 0) h
      have hj : j = 0 := by omega
      have hr : r = 0 := by omega
      subst hj; subst hr
      have := go none 0 0 0 0 hve hrun
      simp at this
      exact good_same hs this (.emp _) hK
  · rename_i hv
    rw [hv] at hx
    generalize hve : a.eval x = v at hx
    cases hx with
    | emp p =>
      obtain ⟨j, r, h1, h2, hrun, hK⟩ := bounds_run hs (P := P) (isSlice := true) (Nat.le_refl 0) h
      have hj : j = 0 := by omega
      have hr : r = 0 := by omega
      subst hj; subst hr
      have := go p 0 0 0 0 hve hrun
      simp at this
      exact good_same hs this (.emp _) hK
  · exact h.elim

def isSl : D → Bool
  | .lst _ | .nils | .emp | .ref .. => true
  | _ => false

/-- the form of what stands for a slice -/
theorem rep_slice_form {d : D} {v : Value} (h : Rep w M d v) (hd : isSl d = true) : ∃ p l c, v = .slice p l c := by
  cases h <;> first | (simp [isSl] at hd; done) | (rename_i h1; exact h1) | exact ⟨_, _, _, rfl⟩

theorem sound_slicez {t e : TypeId} {x : Operand} {k k' : IntKind} {i : TypeInfo} (hs : SimA s a w M) (ho : o.op = .slice t x none (some (.const (.int k 0))) (some (.const (.int k' 0)))) (ht : P.underlying t = some (.slice e)) (hi : P.info? e = some i)
    (h : run s o.dst K (.slicez (opd x))) : Good P s o a w M K := by
  simp only [run] at h
  have hx := val_rep hs x
  have hK : K .emp [] ∧ isSl (s.val (opd x)) = true := by
    split at h <;> first | (rename_i hv; rw [hv]; exact ⟨h, rfl⟩) | exact h.elim
  obtain ⟨p, l, c, hve⟩ := rep_slice_form hx hK.2
  have he : ∀ v, a.eval (.const v) = v := fun _ => rfl
  refine good_same hs (v := .slice p 0 0) ?_ (.emp _) hK.1
  simp [execOp, ho, hve, Instr.sliceAt, run_underlying ht, Instr.slice, Instr.sliceBounds, Instr.sliceBound, asIntOf, he, run_sizeOf w hi]

theorem sound_slicea {t e : TypeId} {n : Nat} {x : Operand} {lo hi : Option Operand} {i : TypeInfo} (hs : SimA s a w M) (ho : o.op = .slice t x lo hi none) (ht : P.underlying t = some (.array n e)) (hi' : P.info? e = some i)
    (h : run s o.dst K (.slicea n i.size (opd x) (lo.map opd) (hi.map opd))) : Good P s o a w M K := by
  simp only [run] at h
  have hx := val_rep hs x
  split at h
  · rename_i b ver off hv
    rw [hv] at hx
    obtain ⟨cs, hb, hfit, hne, hbd⟩ := at_spec h
    obtain ⟨hver, c, base, C, e', hl, hc, hsz, hrep⟩ := at_mem hs hb hne
    have hve := rep_ptr hx hver hl
    obtain ⟨j, r, h1, h2, hrun, hK⟩ := bounds_run hs (P := P) (isSlice := false) (Nat.le_refl n) hbd
    have hrun' : (execOp a.eval o).run P w = .ok (.value (.slice (some (if n = j then ⟨c, base + off, none⟩ else (⟨c, base + off, none⟩ : Addr).add (j * i.size))) (r - j) (n - j))) w := by
      simp [execOp, ho, hve, Instr.sliceAt, run_underlying ht, Instr.sureAddr, hrun, run_sizeOf w hi']
    refine good_same hs hrun' (.ref _ _ _ _ _ _ (Nat.le_of_eq hver.symm) (fun _ => ?_) ⟨_, _, _, rfl⟩) hK
    rw [hl]
    by_cases hcj : n = j
    · left
      have : r = j := by omega
      subst this; subst hcj
      simp
    · right
      rw [if_neg hcj]
      refine ⟨n - j, by simp [Addr.lit_add, Nat.add_assoc], by omega, fun C' e1 fr' hc' => ?_⟩
      rw [hc] at hc'
      injection hc' with hc'; injection hc' with hc' _ _
      rw [← hc']
      have h5 : (n - j) * i.size + j * i.size = n * i.size := by rw [← Nat.add_mul]; congr 1; omega
      omega
  · exact h.elim

theorem sound_len {x : Operand} {t e : TypeId} {c : Call} (hs : SimA s a w M) (ho : o.op = .call c) (hc : c.callee = .builtin .len) (hx0 : c.args[0]? = some x) (ht0 : c.argTypes[0]? = some t) (ht : P.underlying t = some (.slice e))
    (h : run s o.dst K (.len (opd x))) : Good P s o a w M K := by
  have hx := val_rep hs x
  have hrun : ∀ p l cp, a.eval x = .slice p l cp → (execOp a.eval o).run P w = .ok (.value (.int .i64 l)) w := fun p l cp hv => by
    simp [execOp, ho, resolve, hc, invoke, builtin, Builtin.len_, hx0, ht0, run_underlying ht, hv, goInt]
  simp only [run] at h
  split at h
  · rename_i hv
    rw [hv] at hx
    generalize hve : a.eval x = v at hx
    cases hx with
    | nils => exact good_same hs (hrun _ _ _ hve) (.int _ _) h
  · rename_i hv
    rw [hv] at hx
    generalize hve : a.eval x = v at hx
    cases hx with
    | emp p => exact good_same hs (hrun _ _ _ hve) (.int _ _) h
  · rename_i l hv
    rw [hv] at hx
    generalize hve : a.eval x = v at hx
    cases hx with
    | lst0 p c => exact good_same hs (hrun _ _ _ hve) (.int _ _) h
    | lst _ ad c sz u hcc hsp hb hlive hsz hcell hr => exact good_same hs (hrun _ _ _ hve) (.int _ _) h
  · rename_i sz b ver off len hv
    rw [hv] at hx
    obtain ⟨cs, hb, hK⟩ := at_spec h
    have hM1 := hs.sim.ver b
    have hM2 := hs.sim.con b
    rw [hb] at hM1 hM2
    generalize hve : a.eval x = v at hx
    cases hx with
    | ref _ _ _ _ _ _ hle hp hv' =>
      have hp' := hp hM1
      rcases hM2 with ⟨a', hloc, _⟩ | ⟨c, base, C, e', hloc, _⟩
      · rw [hloc] at hp'
        obtain ⟨_, h2, h3⟩ := hp'
        subst h3; subst h2
        exact good_same hs (hrun _ _ _ hve) (.int _ _) hK
      · rw [hloc] at hp'
        rcases hp' with ⟨h2, p, h3⟩ | ⟨cap, h3, _⟩
        · subst h3; subst h2
          exact good_same hs (hrun _ _ _ hve) (.int _ _) hK
        · subst h3
          exact good_same hs (hrun _ _ _ hve) (.int _ _) hK
  · exact h.elim

theorem sound_slen {x : Operand} {t : TypeId} {c : Call} (hs : SimA s a w M) (ho : o.op = .call c) (hc : c.callee = .builtin .len) (hx0 : c.args[0]? = some x) (ht0 : c.argTypes[0]? = some t) (ht : P.underlying t = some .string)
    (h : run s o.dst K (.slen (opd x))) : Good P s o a w M K := by
  have hx := val_rep hs x
  simp only [run] at h
  split at h
  · rename_i u hv
    rw [hv] at hx
    generalize hve : a.eval x = v at hx
    cases hx with
    | str _ =>
      exact good_same hs (v := .int .i64 u.size) (by simp [execOp, ho, resolve, hc, invoke, builtin, Builtin.len_, hx0, ht0, run_underlying ht, hve, goInt]) (.int _ _) h
  · exact h.elim

theorem ints_rep {xs : List Operand} (hs : SimA s a w M) : intsD (xs.map fun x => s.val (opd x)) = true → ∃ ns : List Int, (xs.map fun x => s.val (opd x)) = ns.map (D.int .i64) ∧ xs.map a.eval = ns.map (Value.int .i64) := by
  induction xs with
  | nil => exact fun _ => ⟨[], rfl, rfl⟩
  | cons x xs ih =>
    intro h
    simp only [List.map_cons] at h
    have hx := val_rep hs x
    unfold intsD at h
    split at h
    · rename_i h1; cases h1
    · rename_i n r h1
      injection h1 with h1 h2
      subst h2
      obtain ⟨ns, h3, h4⟩ := ih h
      rw [h1] at hx
      generalize hve : a.eval x = v at hx
      cases hx with
      | int _ _ => exact ⟨n :: ns, by simp [h1, h3], by simp [hve, h4]⟩
    · cases h

theorem fold_min (mx : Bool) : ∀ (ns : List Int) (n : Int), ∃ m, (ns.map (D.int .i64)).foldl (minD mx) (.int .i64 n) = .int .i64 m ∧
    ((ns.map (Value.int .i64)).foldlM (if mx then Builtin.max2 else Builtin.min2) (.int .i64 n)).run P w = .ok (.int .i64 m) w
  | [], n => ⟨n, rfl, by simp⟩
  | m :: ns, n => by
    have step : ((if mx then Builtin.max2 else Builtin.min2) (.int .i64 n) (.int .i64 m)).run P w = .ok (.int .i64 (if mx then (if m > n then m else n) else (if m < n then m else n))) w := by
      cases mx <;> simp [Builtin.max2, Builtin.min2]
    obtain ⟨r, h1, h2⟩ := fold_min mx ns (if mx then (if m > n then m else n) else (if m < n then m else n))
    exact ⟨r, by simpa [minD] using h1, by simp only [List.map_cons, List.foldlM_cons, Sem.run_bind, step, Result.andThen_ok, h2]⟩

theorem sound_minmax {mx : Bool} {c : Call} (hs : SimA s a w M) (ho : o.op = .call c) (hc : c.callee = .builtin (if mx then .max else .min))
    (h : run s o.dst K (.minmax mx (c.args.toList.map opd))) : Good P s o a w M K := by
  simp only [run] at h
  split at h
  · rename_i d ds heq
    have hints : intsD (c.args.toList.map fun x => s.val (opd x)) = true := by
      have : (c.args.toList.map fun x => s.val (opd x)) = d :: ds := by rw [← heq, List.map_map]; rfl
      rw [this]; exact h.1
    obtain ⟨ns, h1, h2⟩ := ints_rep hs hints
    have h3 : d :: ds = ns.map (D.int .i64) := by rw [← heq, List.map_map]; exact h1
    cases ns with
    | nil => cases h3
    | cons n ns =>
      injection h3 with h3 h4
      subst h3; subst h4
      obtain ⟨m, h5, h6⟩ := fold_min (P := P) (w := w) mx ns n
      rw [h5] at h
      have hargs : (c.args.map a.eval).toList = Value.int .i64 n :: ns.map (Value.int .i64) := by simpa using h2
      refine good_same hs (v := .int .i64 m) ?_ (.int _ _) h.2.2
      cases mx
      · simp only [execOp, ho, resolve, hc, Sem.run_bind, Sem.run_pure, Result.andThen_ok, invoke, builtin, Bool.false_eq_true, if_false, Builtin.min_]
        rw [hargs]
        simp only [Bool.false_eq_true, if_false] at h6
        simp [h6]
      · simp only [execOp, ho, resolve, hc, Sem.run_bind, Sem.run_pure, Result.andThen_ok, invoke, builtin, if_true, Builtin.max_]
        rw [hargs]
        simp only [if_true] at h6
        simp [h6]
  · exact h.elim

end Abs
end Go.Proofs.Ytfojedaccfenfab
