/- What the operations' abstract run says holds of the model's run: structs compared, slices cut and made. -/
import Derived.Test.YtfojedaccfenfabA7
namespace Go.Proofs.Ytfojedaccfenfab
namespace Abs
variable {P : Program} {s : St} {o : Oper} {a : Act} {w : World} {M : Ctx} {K : D → Chg → Prop}

theorem eqFields_rep {xs ys : List D} {us vs : Array Value} (hu : ∀ (i : Nat) (c : D) (v : Value), xs[i]? = some c → us[i]? = some v → Rep w M c v) (hv : ∀ (i : Nat) (c : D) (v : Value), ys[i]? = some c → vs[i]? = some v → Rep w M c v)
    (hul : us.size = xs.length) (hvl : vs.size = ys.length) (d : Nat) : ∀ (fs : List Field) (off : Nat) (ks : List Nat) (Q : Bool → Prop), flatK P fs off = some ks → eqAll ks (xs.drop off) (ys.drop off) Q →
      ∃ b, (Op.eqFields (d + 1) us vs fs).run P w = .ok b w ∧ Q b
  | [], off, ks, Q, hk, h => by
    simp only [flatK, Option.some.injEq] at hk
    subst hk
    generalize xs.drop off = xs' at h
    generalize ys.drop off = ys' at h
    cases xs' with
    | nil => cases ys' with
      | nil => exact ⟨true, by simp [Op.eqFields], h⟩
      | cons y ys => simp [eqAll] at h
    | cons x xs => simp [eqAll] at h
  | f :: fs, off, ks, Q, hk, h => by
    simp only [flatK] at hk
    split at hk
    case isFalse => cases hk
    rename_i hcond
    simp only [Bool.and_eq_true, bne_iff_ne, ne_eq, beq_iff_eq] at hcond
    have hparts : ∀ (x y : D), xs[off]? = some x → ys[off]? = some y → ∀ td, P.underlying f.type = some td → isAggD td = false →
        ∃ u v, us[off]? = some u ∧ vs[off]? = some v ∧ Rep w M x u ∧ Rep w M y v ∧ (part f.type us f.offset).run P w = .ok u w ∧ (part f.type vs f.offset).run P w = .ok v w := by
      intro x y hx hy td htd hagg
      have h1 : off < us.size := by rw [hul]; exact (List.getElem?_eq_some_iff.1 hx).1
      have h2 : off < vs.size := by rw [hvl]; exact (List.getElem?_eq_some_iff.1 hy).1
      refine ⟨us[off], vs[off], by simp [h1], by simp [h2], hu off x _ hx (by simp [h1]), hv off y _ hy (by simp [h2]), ?_, ?_⟩
      · simp [part, run_isAgg w htd, hagg, hcond.2, h1]
      · simp [part, run_isAgg w htd, hagg, hcond.2, h2]
    have hdrop : ∀ (l : List D) (x : D) (r : List D), l.drop off = x :: r → l[off]? = some x ∧ l.drop (off + 1) = r := by
      intro l x r hl
      refine ⟨?_, ?_⟩
      · have := congrArg (fun z => z[0]?) hl
        simpa [List.getElem?_drop] using this
      · have := congrArg (List.drop 1) hl
        simpa [List.drop_drop] using this
    have fin : ∀ (u v : Value) (b : Bool) (ks' : List Nat) (x y : D) (xs' ys' : List D), flatK P fs (off + 1) = some ks' → xs.drop off = x :: xs' → ys.drop off = y :: ys' →
        (part f.type us f.offset).run P w = .ok u w → (part f.type vs f.offset).run P w = .ok v w → (Op.equalIn (d + 1) f.type u v).run P w = .ok b w →
        eqAll ks' xs' ys' (fun c => Q (b && c)) → ∃ b, (Op.eqFields (d + 1) us vs (f :: fs)).run P w = .ok b w ∧ Q b := by
      intro u v b ks' x y xs' ys' hk' hx hy h1 h2 h3 h4
      rw [← (hdrop _ _ _ hx).2, ← (hdrop _ _ _ hy).2] at h4
      obtain ⟨c, hc, hQ⟩ := eqFields_rep hu hv hul hvl d fs (off + 1) ks' _ hk' h4
      refine ⟨b && c, ?_, hQ⟩
      cases b
      · simp [Op.eqFields, hcond.1, h1, h2, h3]
      · simp [Op.eqFields, hcond.1, h1, h2, h3, hc]
    split at hk
    · rename_i k ks' htd hks
      simp only [Option.some.injEq] at hk
      subst hk
      generalize hx : xs.drop off = xs' at h
      generalize hy : ys.drop off = ys' at h
      cases xs' with
      | nil => simp [eqAll] at h
      | cons x xs' =>
        cases ys' with
        | nil => cases x <;> simp [eqAll] at h
        | cons y ys' =>
          obtain ⟨u, v, _, _, hru, hrv, h1, h2⟩ := hparts x y (hdrop _ _ _ hx).1 (hdrop _ _ _ hy).1 _ htd rfl
          cases x <;> cases y <;> simp only [eqAll] at h
          obtain ⟨rfl, h⟩ := h
          cases hru with
          | int _ _ => cases hrv with
            | int _ _ => exact fin _ _ _ _ _ _ _ _ hks hx hy h1 h2 (run_equalIn_int w d f.type _ _ _ _ htd) h
    · rename_i ks' htd hks
      simp only [Option.some.injEq] at hk
      subst hk
      generalize hx : xs.drop off = xs' at h
      generalize hy : ys.drop off = ys' at h
      cases xs' with
      | nil => simp [eqAll] at h
      | cons x xs' =>
        cases ys' with
        | nil => cases x <;> simp [eqAll] at h
        | cons y ys' =>
          obtain ⟨u, v, _, _, hru, hrv, h1, h2⟩ := hparts x y (hdrop _ _ _ hx).1 (hdrop _ _ _ hy).1 _ htd rfl
          cases x <;> cases y <;> simp only [eqAll] at h
          cases hru with
          | bool _ => cases hrv with
            | bool _ => exact fin _ _ _ _ _ _ _ _ hks hx hy h1 h2 (run_equalIn_bool' w d f.type _ _ htd) h
    · rename_i ks' htd hks
      simp only [Option.some.injEq] at hk
      subst hk
      generalize hx : xs.drop off = xs' at h
      generalize hy : ys.drop off = ys' at h
      cases xs' with
      | nil => simp [eqAll] at h
      | cons x xs' =>
        cases ys' with
        | nil => cases x <;> simp [eqAll] at h
        | cons y ys' =>
          obtain ⟨u, v, _, _, hru, hrv, h1, h2⟩ := hparts x y (hdrop _ _ _ hx).1 (hdrop _ _ _ hy).1 _ htd rfl
          cases x <;> cases y <;> simp only [eqAll] at h
          cases hru with
          | str _ => cases hrv with
            | str _ => exact fin _ _ _ _ _ _ _ _ hks hx hy h1 h2 (run_equalIn_string w d f.type _ _ htd) h
    · cases hk

theorem sound_eqs {op : BinOp} (hop : op = .eql ∨ op = .neq) {t ty : TypeId} {x y : Operand} {fs : Array Field} {ks : List Nat} (hs : SimA s a w M) (ho : o.op = .binOp op t x y ty) (ht : P.underlying t = some (.struct fs))
    (hk : flatK P fs.toList 0 = some ks) (hst : P.stoodInHeld t = false) (hg : P.eqGuardType P.depth t = false) (h : run s o.dst K (.eqs (op == .neq) ks (opd x) (opd y))) : Good P s o a w M K := by
  simp only [run] at h
  have hx := val_rep hs x
  have hy := val_rep hs y
  split at h
  · rename_i xs ys hv hv2
    rw [hv] at hx
    rw [hv2] at hy
    generalize hve : a.eval x = u at hx
    generalize hve2 : a.eval y = u2 at hy
    cases hx with
    | agg _ us hul hur =>
      cases hy with
      | agg _ vs hvl hvr =>
        have hfs : P.fieldsOf t = fs := by simp [Program.fieldsOf, ht]
        obtain ⟨b, hb, hK⟩ := eqFields_rep (P := P) (M := M) hur hvr hul hvl 9998 fs.toList 0 ks _ hk (by simpa using h)
        have heq : (Op.equalIn 10000 t (.agg us) (.agg vs)).run P w = .ok b w := by
          rw [run_equalIn_struct w 9999 t us vs (by rw [hfs]; exact ht) hst, hfs]
          exact hb
        refine good_same hs (execOp_bin ho hve hve2 (run_eqGuard_agg w op t x y us vs hg) ?_) (.bool _) hK
        rcases hop with rfl | rfl
        · rw [run_eql_struct, heq]; cases b <;> rfl
        · rw [run_neq_struct, heq]; cases b <;> rfl
  · exact h.elim

end Abs
end Go.Proofs.Ytfojedaccfenfab
