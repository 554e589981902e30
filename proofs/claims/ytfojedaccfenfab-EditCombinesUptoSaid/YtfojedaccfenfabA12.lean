/- An operation's abstract run is sound. -/
import Derived.Test.YtfojedaccfenfabA11
namespace Go.Proofs.Ytfojedaccfenfab
namespace Abs
set_option linter.unusedVariables false
variable {P : Program} {s : St} {o : Oper} {a : Act} {w : World} {M : Ctx} {K : D → Chg → Prop}

theorem sound_cmp {op : BinOp} {t ty : TypeId} {x y : Operand} (hs : SimA s a w M) (ho : o.op = .binOp op t x y ty) (h : run s o.dst K (compBin P op t x y)) : Good P s o a w M K := by
  have hbin : (op ≠ .eql ∧ op ≠ .neq) → Good P s o a w M K := fun hne => by
    have : compBin P op t x y = .bin op (opd x) (opd y) := by cases op <;> first | rfl | (simp at hne)
    rw [this] at h
    exact sound_bin hs ho h
  by_cases hop : op = .eql ∨ op = .neq
  · have hc : compBin P op t x y = match P.underlying t with
      | some (.struct fs) => match flatK P fs.toList 0 with
        | some ks => if !P.stoodInHeld t && !P.eqGuardType P.depth t then .eqs (op == .neq) ks (opd x) (opd y) else .bad
        | none => .bad
      | some .bool => .eqb (op == .neq) (opd x) (opd y)
      | some (.int _) | some .string => .bin op (opd x) (opd y)
      | some d => match nilOf d with
        | some (k, _) => if isNilC k y then .nileq k (op == .neq) (opd x) else if isNilC k x then .nileq k (op == .neq) (opd y) else .bad
        | none => .bad
      | none => .bad := by rcases hop with rfl | rfl <;> rfl
    rw [hc] at h
    clear hc
    split at h
    · rename_i fs hu
      split at h
      · rename_i ks hk
        split at h
        · rename_i hcond
          simp only [Bool.and_eq_true, Bool.not_eq_true'] at hcond
          exact sound_eqs hop hs ho hu hk hcond.1 hcond.2 h
        · exact h.elim
      · exact h.elim
    · rename_i hu; exact sound_eqb hop hs ho hu h
    · exact sound_bin hs ho h
    · exact sound_bin hs ho h
    · rename_i d _ _ _ _ hu
      split at h
      · rename_i k n hk
        split at h
        · rename_i hy; exact sound_nileq hop hs ho hu hk (.inl ⟨rfl, hy⟩) h
        · split at h
          · rename_i hx; exact sound_nileq hop hs ho hu hk (.inr ⟨rfl, hx⟩) h
          · exact h.elim
      · exact h.elim
    · exact h.elim
  · exact hbin ⟨fun h => hop (.inl h), fun h => hop (.inr h)⟩

theorem bind_some {α β : Type} {x : Option α} {f : α → Option β} {b : β} (h : x.bind f = some b) : ∃ a, x = some a ∧ f a = some b := by
  cases x with
  | none => cases h
  | some a => exact ⟨a, rfl, h⟩

set_option maxHeartbeats 1000000 in
theorem run_sound (hs : SimA s a w M) (h : run s o.dst K (comp P o.op)) : Good P s o a w M K := by
  cases ho : o.op with
  | move x => rw [ho] at h; exact sound_mov hs (.inl ho) h
  | assign x => rw [ho] at h; exact sound_mov hs (.inr ho) h
  | pick c x y => rw [ho] at h; exact sound_pick hs ho h
  | alloc e =>
    rw [ho] at h
    simp only [comp] at h
    split at h
    · rename_i z hz
      obtain ⟨i, hi, hz'⟩ := bind_some hz
      exact sound_alloc hs ho hi hz' h
    · exact h.elim
  | box e x => rw [ho] at h; exact sound_box hs ho h
  | build t parts =>
    rw [ho] at h
    simp only [comp] at h
    split at h
    · rename_i fs z hu hz
      obtain ⟨i, hi, hz'⟩ := bind_some hz
      split at h
      · rename_i ps hps
        split at h
        · rename_i hall
          exact sound_build_struct hs ho hu hi hz' (fun f hf => List.all_eq_true.1 hall f hf) hps h
        · exact h.elim
      · exact h.elim
    · rename_i n e z hu hz
      obtain ⟨i, hi, hz'⟩ := bind_some hz
      split at h
      · rename_i ie hie
        exact sound_build_array hs ho hu hi hz' hie h
      · exact h.elim
    · exact h.elim
  | buildSlice t len parts =>
    rw [ho] at h
    simp only [comp] at h
    split at h
    · rename_i e hu
      split at h
      · rename_i i hi
        split at h
        · rename_i z hz
          split at h
          · rename_i hcond
            simp only [Bool.and_eq_true, beq_iff_eq, bne_iff_ne, ne_eq, decide_eq_true_eq] at hcond
            exact sound_buildSlice hs ho hu hi hz hcond.1.1 hcond.1.2 hcond.2 h
          · exact h.elim
        · exact h.elim
      · exact h.elim
    · exact h.elim
  | load t x =>
    rw [ho] at h
    simp only [comp] at h
    split at h
    · rename_i i d hi hd
      split at h
      · exact h.elim
      · rename_i h0
        exact sound_load hs ho hi hd (by simpa using h0) h
    · exact h.elim
  | store t x y =>
    rw [ho] at h
    simp only [comp] at h
    split at h
    · rename_i i hi
      split at h
      · exact h.elim
      · rename_i h0
        exact sound_store hs ho hi (by simpa using h0) h
    · exact h.elim
  | nilCheck x => rw [ho] at h; exact sound_nilck hs ho h
  | binOp op t x y ty => rw [ho] at h; exact sound_cmp hs ho h
  | unOp op t x => rw [ho] at h; exact sound_un hs ho h
  | convert t u x =>
    rw [ho] at h
    simp only [comp] at h
    split at h
    · rename_i k' k ht hu
      exact sound_conv hs ho ht hu h
    · exact h.elim
  | makeFunc fn first caps =>
    rw [ho] at h
    cases fn with
    | func f =>
      simp only [comp] at h
      split at h
      · rename_i hf; exact sound_mkfn hs ho hf h
      · exact h.elim
    | _ => exact h.elim
  | makeSlice t x y =>
    rw [ho] at h
    simp only [comp] at h
    split at h
    · rename_i e hu
      split at h
      · rename_i i hi
        split at h
        · rename_i z hz
          split at h
          · rename_i hcond
            simp only [Bool.and_eq_true, beq_iff_eq, bne_iff_ne, ne_eq] at hcond
            exact sound_mkslice hs ho hu hi hz hcond.1 hcond.2 h
          · exact h.elim
        · exact h.elim
      · exact h.elim
    · exact h.elim
  | slice t x lo hi mx =>
    rw [ho] at h
    simp only [comp] at h
    split at h
    · rename_i e hu
      split at h
      · rename_i i hi'
        split at h
        · exact sound_slice hs ho hu hi' h
        · split at h
          · exact sound_slicez hs ho hu hi' h
          · exact h.elim
        · exact h.elim
      · exact h.elim
    · rename_i n e hu
      split at h
      · rename_i i hi'
        exact sound_slicea hs ho hu hi' h
      · exact h.elim
    · exact h.elim
  | fieldAddr t x f =>
    rw [ho] at h
    simp only [comp] at h
    split at h
    · rename_i fs hu
      split at h
      · rename_i fd hf
        split at h
        · rename_i i hi
          split at h
          · exact h.elim
          · rename_i h0
            exact sound_fieldAddr hs ho hu hf hi (by simpa using h0) h
        · exact h.elim
      · exact h.elim
    · exact h.elim
  | field t x f =>
    rw [ho] at h
    simp only [comp] at h
    split at h
    · rename_i fs hu
      split at h
      · rename_i fd hf
        split at h
        · rename_i i d hi hd
          exact sound_field hs ho hu hf hi hd h
        · exact h.elim
      · exact h.elim
    · exact h.elim
  | indexAddr t x ix =>
    rw [ho] at h
    simp only [comp] at h
    split at h
    · rename_i e hu
      split at h
      · rename_i i hi; exact sound_idxS hs ho hu hi h
      · exact h.elim
    · rename_i n e hu
      split at h
      · rename_i i hi; exact sound_idxA hs ho hu hi h
      · exact h.elim
    · exact h.elim
  | index t x ix =>
    rw [ho] at h
    simp only [comp] at h
    split at h
    · rename_i n e hu
      split at h
      · rename_i i d hi hd; exact sound_idx hs ho hu hi hd h
      · exact h.elim
    · exact h.elim
  | extract x i => rw [ho] at h; exact sound_extract hs ho h
  | call c =>
    rw [ho] at h
    simp only [comp] at h
    split at h
    · rename_i hc
      split at h
      · rename_i x e hx ht
        obtain ⟨t, ht1, ht2⟩ := bind_some ht
        exact sound_len hs ho hc hx ht1 ht2 h
      · rename_i x hx ht
        obtain ⟨t, ht1, ht2⟩ := bind_some ht
        exact sound_slen hs ho hc hx ht1 ht2 h
      · exact h.elim
    · rename_i hc
      split at h
      · rename_i x y t u hargs htys
        split at h
        · rename_i htu
          have htu' : t = u := by simpa using htu
          subst htu'
          split at h
          · rename_i e hu
            split at h
            · rename_i i hi
              split at h
              · rename_i z hz
                split at h
                · rename_i hcond
                  simp only [Bool.and_eq_true, beq_iff_eq, bne_iff_ne, ne_eq] at hcond
                  exact sound_append hs ho hc hargs htys hu hi hz hcond.1.1 hcond.1.2 hcond.2 h
                · exact h.elim
              · exact h.elim
            · exact h.elim
          · exact h.elim
        · split at h
          · rename_i e kn hu hu2
            split at h
            · rename_i i hi
              split at h
              · rename_i z hz
                split at h
                · rename_i hcond
                  simp only [Bool.and_eq_true, beq_iff_eq, bne_iff_ne, ne_eq] at hcond
                  exact sound_appendz hs ho hc hargs htys hu hu2 hi hz hcond.1.1 hcond.1.2 hcond.2 h
                · exact h.elim
              · exact h.elim
            · exact h.elim
          · exact h.elim
      · exact h.elim
    · rename_i hc
      split at h
      · rename_i x e hargs ht
        obtain ⟨t, ht1, ht2⟩ := bind_some ht
        exact sound_capz hs ho hc hargs ht1 ht2 h
      · exact h.elim
    · rename_i hc; exact sound_minmax (mx := false) hs ho hc h
    · rename_i hc; exact sound_minmax (mx := true) hs ho hc h
    · exact h.elim
    · exact h.elim
    · exact h.elim
  | _ => rw [ho] at h; exact h.elim

end Abs
end Go.Proofs.Ytfojedaccfenfab
