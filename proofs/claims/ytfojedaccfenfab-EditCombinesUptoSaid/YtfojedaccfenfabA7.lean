/- What the operations' abstract run says holds of the model's run: comparisons, slices, lengths. -/
import Derived.Test.YtfojedaccfenfabA6
namespace Go.Proofs.Ytfojedaccfenfab
namespace Abs
variable {P : Program} {s : St} {o : Oper} {a : Act} {w : World} {M : Ctx} {K : D → Chg → Prop}

section
variable {op : BinOp} {t : TypeId} {x y : Operand}
theorem eqGuard_int (k k' : IntKind) (m n : Int) : (eqGuard op t x y (.int k m) (.int k' n)).run P w = .ok () w := by cases op <;> rfl
theorem eqGuard_bool (b c : Bool) : (eqGuard op t x y (.bool b) (.bool c)).run P w = .ok () w := by cases op <;> rfl
theorem eqGuard_str (b c : ByteArray) : (eqGuard op t x y (.string b) (.string c)).run P w = .ok () w := by cases op <;> rfl
theorem eqGuard_slice (p q : Option Addr) (i j k l : Nat) : (eqGuard op t x y (.slice p i j) (.slice q k l)).run P w = .ok () w := by cases op <;> rfl
theorem eqGuard_ptr (p q : Option Addr) : (eqGuard op t x y (.pointer p) (.pointer q)).run P w = .ok () w := by cases op <;> rfl
theorem eqGuard_map (p q : Option Nat) : (eqGuard op t x y (.map p) (.map q)).run P w = .ok () w := by cases op <;> rfl
theorem eqGuard_nf (v : Value) : (eqGuard op t x y v .nilFunc).run P w = .ok () w := by cases op <;> cases v <;> rfl
theorem eqGuard_fn (v : Value) : (eqGuard op t x y .nilFunc v).run P w = .ok () w := by cases op <;> rfl
end

theorem execOp_bin {op : BinOp} {t ty : TypeId} {x y : Operand} (ho : o.op = .binOp op t x y ty) {u v r : Value} (hx : a.eval x = u) (hy : a.eval y = v) (hg : (eqGuard op t x y u v).run P w = .ok () w)
    (hb : (binOp op t u v).run P w = .ok r w) : (execOp a.eval o).run P w = .ok (.value r) w := by
  simp [execOp, ho, hx, hy, hg, hb]

theorem sound_bin {op : BinOp} {t ty : TypeId} {x y : Operand} (hs : SimA s a w M) (ho : o.op = .binOp op t x y ty)
    (h : run s o.dst K (.bin op (opd x) (opd y))) : Good P s o a w M K := by
  simp only [run] at h
  have hx := val_rep hs x
  have hy := val_rep hs y
  unfold binD at h
  split at h
  · rename_i k n k' m hv hv2
    rw [hv] at hx
    rw [hv2] at hy
    generalize hve : a.eval x = u at hx
    generalize hve2 : a.eval y = u2 at hy
    obtain ⟨rfl, h⟩ := h
    cases hx with
    | int _ _ =>
      cases hy with
      | int _ _ =>
        have go : ∀ (r : Value) (d : D), (binOp op t (.int k n) (.int k m)).run P w = .ok r w → Rep w M d r → K d [] → Good P s o a w M K :=
          fun r d hb hr hK => good_same hs (execOp_bin ho hve hve2 (eqGuard_int _ _ _ _) hb) hr hK
        cases op <;> simp only at h
        case add => exact go _ _ (by simp [binOp, Op.intArith]) (.int _ _) h
        case sub => exact go _ _ (by simp [binOp, Op.intArith]) (.int _ _) h
        case mul => exact go _ _ (by simp [binOp, Op.intArith]) (.int _ _) h
        case quo => exact go _ _ (by simp [binOp, Op.intDiv, h.1]) (.int _ _) h.2
        case rem => exact go _ _ (by simp [binOp, Op.intDiv, h.1]) (.int _ _) h.2
        case eql => exact go _ _ (by simp [binOp, Op.intCmp]) (.bool _) h
        case neq => exact go _ _ (by simp [binOp, Op.intCmp]) (.bool _) h
        case lss => exact go _ _ (by simp [binOp, Op.intCmp]) (.bool _) h
        case leq => exact go _ _ (by simp [binOp, Op.intCmp]) (.bool _) h
        case gtr => exact go _ _ (by simp [binOp, Op.intCmp]) (.bool _) h
        case geq => exact go _ _ (by simp [binOp, Op.intCmp]) (.bool _) h
  · rename_i n m hv hv2
    rw [hv] at hx
    rw [hv2] at hy
    generalize hve : a.eval x = u at hx
    generalize hve2 : a.eval y = u2 at hy
    cases hx with
    | str _ =>
      cases hy with
      | str _ =>
        cases op <;> simp only at h
        case eql => exact good_same hs (execOp_bin ho hve hve2 (eqGuard_str _ _) (by simp only [binOp, Op.stringOp, Sem.run_pure])) (.bool _) h
        case neq => exact good_same hs (execOp_bin ho hve hve2 (eqGuard_str _ _) (by simp only [binOp, Op.stringOp, Sem.run_pure])) (.bool _) h
  · exact h.elim

theorem sound_eqb {op : BinOp} (hop : op = .eql ∨ op = .neq) {t ty : TypeId} {x y : Operand} (hs : SimA s a w M) (ho : o.op = .binOp op t x y ty) (ht : P.underlying t = some .bool)
    (h : run s o.dst K (.eqb (op == .neq) (opd x) (opd y))) : Good P s o a w M K := by
  simp only [run] at h
  have hx := val_rep hs x
  have hy := val_rep hs y
  split at h
  · rename_i b c hv hv2
    rw [hv] at hx
    rw [hv2] at hy
    generalize hve : a.eval x = u at hx
    generalize hve2 : a.eval y = u2 at hy
    cases hx with
    | bool _ =>
      cases hy with
      | bool _ =>
        refine good_same hs (execOp_bin ho hve hve2 (eqGuard_bool _ _) ?_) (.bool _) h
        rcases hop with rfl | rfl
        · rw [run_eql_bool w t b c ht]; cases b <;> cases c <;> rfl
        · rw [run_neq_bool w t b c ht]; cases b <;> cases c <;> rfl
  · exact h.elim

/-- whether a slice's, a pointer's, a map's or a function's value is nil -/
def isNilV : Value → Bool
  | .slice p _ _ => p.isNone
  | .pointer p => p.isNone
  | .map p => p.isNone
  | .nilFunc => true
  | _ => false

inductive NilKind (P : Program) (t : TypeId) : Value → Value → Prop
  | slice (e : TypeId) (h : P.underlying t = some (.slice e)) (p : Option Addr) (i j : Nat) : NilKind P t (.slice p i j) (.slice none 0 0)
  | ptr (e : TypeId) (h : P.underlying t = some (.pointer e)) (p : Option Addr) : NilKind P t (.pointer p) (.pointer none)
  | map (k e : TypeId) (h : P.underlying t = some (.map k e)) (p : Option Nat) : NilKind P t (.map p) (.map none)
  | fn (ps rs : Array TypeId) (v : Bool) (h : P.underlying t = some (.func ps rs v)) (f : Fn) (first caps : Array Value) : NilKind P t (.func f first caps) .nilFunc
  | nilfn (ps rs : Array TypeId) (v : Bool) (h : P.underlying t = some (.func ps rs v)) : NilKind P t .nilFunc .nilFunc

theorem equalIn_nil (d : Nat) {t : TypeId} {u n : Value} (h : NilKind P t u n) :
    (Op.equalIn (d + 1) t u n).run P w = .ok (isNilV u) w ∧ (Op.equalIn (d + 1) t n u).run P w = .ok (isNilV u) w := by
  cases h with
  | slice e h p i j => cases p <;> simp [Op.equalIn, run_underlying h, isNilV]
  | ptr e h p => cases p <;> simp [Op.equalIn, run_underlying h, isNilV]
  | map k e h p => cases p <;> simp [Op.equalIn, run_underlying h, isNilV]
  | fn ps rs v h f first caps => simp [Op.equalIn, run_underlying h, isNilV]
  | nilfn ps rs v h => simp [Op.equalIn, run_underlying h, isNilV]

theorem run_nileq {op : BinOp} (hop : op = .eql ∨ op = .neq) {t : TypeId} {u n : Value} (h : NilKind P t u n) :
    (binOp op t u n).run P w = .ok (.bool (isNilV u != (op == .neq))) w ∧ (binOp op t n u).run P w = .ok (.bool (isNilV u != (op == .neq))) w := by
  obtain ⟨h1, h2⟩ := equalIn_nil (w := w) 9999 h
  have h1' : (Op.equal t u n).run P w = .ok (isNilV u) w := h1
  have h2' : (Op.equal t n u).run P w = .ok (isNilV u) w := h2
  have e1 : ∀ b : Bool, (b != (BinOp.eql == BinOp.neq)) = b := fun b => by cases b <;> rfl
  have e2 : ∀ b : Bool, (b != (BinOp.neq == BinOp.neq)) = !b := fun b => by cases b <;> rfl
  cases h <;> rcases hop with rfl | rfl <;> simp only [binOp, Sem.run_bind, h1', h2', Result.andThen_ok, Sem.run_pure, e1, e2, and_self]

theorem nil_guard {op : BinOp} {t : TypeId} {x y : Operand} {u n : Value} (h : NilKind P t u n) : (eqGuard op t x y u n).run P w = .ok () w ∧ (eqGuard op t x y n u).run P w = .ok () w := by
  cases h with
  | slice e h p i j => exact ⟨eqGuard_slice .., eqGuard_slice ..⟩
  | ptr e h p => exact ⟨eqGuard_ptr .., eqGuard_ptr ..⟩
  | map k e h p => exact ⟨eqGuard_map .., eqGuard_map ..⟩
  | fn ps rs v h f first caps => exact ⟨eqGuard_nf .., eqGuard_fn ..⟩
  | nilfn ps rs v h => exact ⟨eqGuard_nf .., eqGuard_fn ..⟩

def kindV (k : Nat) (v : Value) : Prop :=
  match k with
  | 0 => ∃ p i j, v = .slice p i j
  | 1 => ∃ p, v = .pointer p
  | 2 => ∃ p, v = .map p
  | 3 => (∃ f c, v = .func f #[] c) ∨ v = .nilFunc
  | _ => False

/-- the outcome of a test for nil -/
theorem nileq_rep (hs : SimA s a w M) {x : Operand} {k : Nat} {neg : Bool} (h : run s o.dst K (.nileq k neg (opd x))) :
    ∃ d, Rep w M d (.bool (isNilV (a.eval x) != neg)) ∧ K d [] ∧ kindV k (a.eval x) := by
  simp only [run] at h
  have hx := val_rep hs x
  generalize a.eval x = v at hx ⊢
  split at h
  case h_11 => exact h.elim
  all_goals (rename_i hv; rw [hv] at hx)
  · cases hx; exact ⟨_, by cases neg <;> exact .bool _, h, ⟨_, _, _, rfl⟩⟩
  · cases hx; exact ⟨_, by cases neg <;> exact .bool _, h, ⟨_, rfl⟩⟩
  · cases hx; exact ⟨_, by cases neg <;> exact .bool _, h, ⟨_, rfl⟩⟩
  · cases hx; exact ⟨_, by cases neg <;> exact .bool _, h, .inr rfl⟩
  · cases hx; exact ⟨_, .abool _, h, ⟨_, _, _, rfl⟩⟩
  · rename_i l
    cases hx with
    | lst0 p c => exact ⟨_, .abool _, h.1 rfl, ⟨_, _, _, rfl⟩⟩
    | lst _ ad c sz u hcc hsp hb hlive hsz hcell hr =>
      by_cases hl : l = []
      · exact ⟨_, .abool _, h.1 hl, ⟨_, _, _, rfl⟩⟩
      · exact ⟨_, by cases neg <;> exact .bool _, h.2 hl, ⟨_, _, _, rfl⟩⟩
  · rename_i sz b ver off len
    obtain ⟨cs, hb, h1, h2⟩ := at_spec h
    have hM1 := hs.sim.ver b
    have hM2 := hs.sim.con b
    rw [hb] at hM1 hM2
    cases hx with
    | ref _ _ _ _ _ _ hle hp hv' =>
      obtain ⟨p, i, j, rfl⟩ := hv'
      by_cases hl : len = 0
      · exact ⟨_, .abool _, h1 hl, ⟨_, _, _, rfl⟩⟩
      · have hp' := hp hM1
        rcases hM2 with ⟨a', hloc, _⟩ | ⟨c, base, C, e, hloc, _⟩
        · rw [hloc] at hp'; exact absurd hp'.2.1 hl
        · rw [hloc] at hp'
          rcases hp' with ⟨h3, _⟩ | ⟨cap, h3, _⟩
          · exact absurd h3 hl
          · injection h3 with h3 h4 h5
            subst h3
            exact ⟨_, by cases neg <;> exact .bool _, h2 hl, ⟨_, _, _, rfl⟩⟩
  · cases hx; exact ⟨_, by cases neg <;> exact .bool _, h, ⟨_, rfl⟩⟩
  · cases hx; exact ⟨_, by cases neg <;> exact .bool _, h, .inl ⟨_, _, rfl⟩⟩
  · rename_i b ver off
    obtain ⟨cs, hb, hne, hK⟩ := at_spec h
    obtain ⟨hver, c, base, C, e, hl, hc, hsz, hrep⟩ := at_mem hs hb hne
    have hve := rep_ptr hx hver hl
    subst hve
    exact ⟨_, by cases neg <;> exact .bool _, hK, ⟨_, rfl⟩⟩

theorem nilKind_of {t : TypeId} {d : TypeDesc} {k : Nat} {n u : Value} (ht : P.underlying t = some d) (hd : nilOf d = some (k, n)) (hu : kindV k u) : NilKind P t u n := by
  cases d <;> simp only [nilOf, Option.some.injEq, Prod.mk.injEq, reduceCtorEq] at hd
  · obtain ⟨rfl, rfl⟩ := hd
    obtain ⟨p, rfl⟩ := hu
    exact .ptr _ ht p
  · obtain ⟨rfl, rfl⟩ := hd
    obtain ⟨p, i, j, rfl⟩ := hu
    exact .slice _ ht p i j
  · obtain ⟨rfl, rfl⟩ := hd
    obtain ⟨p, rfl⟩ := hu
    exact .map _ _ ht p
  · obtain ⟨rfl, rfl⟩ := hd
    rcases hu with ⟨f, c, rfl⟩ | rfl
    · exact .fn _ _ _ ht f _ _
    · exact .nilfn _ _ _ ht

theorem nilC_of {d : TypeDesc} {k : Nat} {n : Value} {y : Operand} (hd : nilOf d = some (k, n)) (hy : isNilC k y = true) : a.eval y = n := by
  unfold isNilC at hy
  split at hy <;> simp only [beq_iff_eq, Bool.false_eq_true] at hy <;> subst hy <;> cases d <;> simp only [nilOf, Option.some.injEq, Prod.mk.injEq, reduceCtorEq] at hd <;> first
    | (obtain ⟨_, rfl⟩ := hd; rfl)
    | (obtain ⟨h, _⟩ := hd; cases h)

theorem sound_nileq {op : BinOp} (hop : op = .eql ∨ op = .neq) {t ty : TypeId} {x y : Operand} (hs : SimA s a w M) (ho : o.op = .binOp op t x y ty) {td : TypeDesc} (ht : P.underlying t = some td) {k : Nat} {n : Value} (hk : nilOf td = some (k, n)) {z : Operand}
    (hz : (z = x ∧ isNilC k y = true) ∨ (z = y ∧ isNilC k x = true))
    (h : run s o.dst K (.nileq k (op == .neq) (opd z))) : Good P s o a w M K := by
  obtain ⟨d, hr, hK, hkv⟩ := nileq_rep hs h
  have hnk := nilKind_of ht hk hkv
  rcases hz with ⟨rfl, hy⟩ | ⟨rfl, hx⟩
  · exact good_same hs (execOp_bin ho rfl (nilC_of hk hy) (nil_guard hnk).1 (run_nileq hop hnk).1) hr hK
  · exact good_same hs (execOp_bin ho (nilC_of hk hx) rfl (nil_guard hnk).2 (run_nileq hop hnk).2) hr hK

end Abs
end Go.Proofs.Ytfojedaccfenfab
