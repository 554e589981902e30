/- The model's code as the abstract run takes it. -/
import Derived.Test.YtfojedaccfenfabA15
import Derived.Test.YtfojedaccfenfabA19
namespace Go.Proofs.Ytfojedaccfenfab
namespace Abs
set_option linter.unusedVariables false

inductive AC where
  | skip
  | region (os : List AOper)
  | draw (os : List DOper)
  | seq (x y : AC)
  | cond (c : Opd) (x y : AC)
  | block (id : Nat) (x : AC)
  | loop (x : AC)
  | exit (id : Nat)
  | ret
  | bad

def compC (P : Program) : Code → AC
  | .skip => .skip
  | .region _ ops false => .region (ops.toList.map (aoper P ops))
  | .region _ ops true => if preOk ops.toList (preOf ops.toList) && apartOk (ops.toList.map (aoper P ops)) (preOf ops.toList) then .draw (dops (ops.toList.map (aoper P ops)) (preOf ops.toList)) else .bad
  | .seq x y => .seq (compC P x) (compC P y)
  | .cond c x y => .cond (opd c) (compC P x) (compC P y)
  | .block id x => .block id (compC P x)
  | .loop x => .loop (compC P x)
  | .exit id => .exit id
  | .ret => .ret
  | _ => .bad

/-- a loop: whatever code it stands for -/
def ALoop (P : Program) (x : AC) (Q : Exit → St → Prop) (s : St) : Prop := ∀ c, compC P c = x → Awp P (.loop c) Q s

/-- a region whose order is left open: whatever code it stands for -/
def ADraw (P : Program) (os : List DOper) (Q : Exit → St → Prop) (s : St) : Prop := ∀ id ops, compC P (.region id ops true) = .draw os → Awp P (.region id ops true) Q s

def awp (P : Program) : AC → (Exit → St → Prop) → St → Prop
  | .skip, Q, s => Q .normal s
  | .region os, Q, s => aops P os s (Q .normal)
  | .draw os, Q, s => ADraw P os Q s
  | .seq x y, Q, s => awp P x (AThen (awp P y Q) Q) s
  | .cond c x y, Q, s => match s.val c with
    | .bool b => condP b (awp P x Q s) (awp P y Q s)
    | .abool => awp P x Q s ∧ awp P y Q s
    | _ => False
  | .block id x, Q, s => awp P x (AInBlock id Q) s
  | .loop x, Q, s => ALoop P x Q s
  | .exit id, Q, s => Q (.exit id) s
  | .ret, Q, s => Q .ret s
  | .bad, _, _ => False

variable {P : Program}

theorem awp_sound : ∀ (c : Code) (Q : Exit → St → Prop) (s : St), awp P (compC P c) Q s → Awp P c Q s
  | .skip, Q, s, h => awp_skip h
  | .region id ops draw, Q, s, h => by
    cases draw with
    | false => exact awp_region h
    | true =>
      have hc : compC P (.region id ops true) = .draw (dops (ops.toList.map (aoper P ops)) (preOf ops.toList)) ∨ compC P (.region id ops true) = .bad := by
        simp only [compC]
        split
        · exact .inl rfl
        · exact .inr rfl
      rcases hc with hc | hc
      · rw [hc] at h; exact h id ops hc
      · rw [hc] at h; exact h.elim
  | .seq x y, Q, s, h => awp_seq (awp_mono (awp_sound x _ s h) fun e s' hq => by
      cases e with
      | normal => exact awp_sound y Q s' hq
      | _ => exact hq)
  | .cond c x y, Q, s, h => by
    refine awp_cond ?_
    simp only [compC, awp] at h
    revert h
    cases s.val (opd c) <;> intro h <;> first | exact h.elim | (simp only [condP_iff] at h)
    · exact ⟨awp_sound x Q s h.1, awp_sound y Q s h.2⟩
    · exact ⟨fun hb => awp_sound x Q s (h.1 hb), fun hb => awp_sound y Q s (h.2 hb)⟩
  | .block id x, Q, s, h => awp_block (awp_sound x _ s h)
  | .loop x, Q, s, h => h x rfl
  | .exit id, Q, s, h => awp_exit h
  | .ret, Q, s, h => awp_ret h
  | .rangeFunc _ _ _ _, _, _, h => h.elim
  | .scope _, _, _, h => h.elim
  | .label _, _, _, h => h.elim
  | .goto _, _, _, h => h.elim
  | .refuse _, _, _, h => h.elim

/-! ### the same, sealed: nothing unfolds it but the equations that are told of it -/
noncomputable def Sealed {α : Type} (a : α) : α := (Classical.choice (⟨⟨a, rfl⟩⟩ : Nonempty {x : α // x = a})).1
theorem sealed_eq {α : Type} (a : α) : Sealed a = a := (Classical.choice (⟨⟨a, rfl⟩⟩ : Nonempty {x : α // x = a})).2
noncomputable def awpS (P : Program) : AC → (Exit → St → Prop) → St → Prop := Sealed (awp P)
noncomputable def aopsS (P : Program) : List AOper → St → (St → Prop) → Prop := Sealed (aops P)
noncomputable def stepS (P : Program) : AOper → St → (D → Chg → Prop) → Prop := Sealed (stepO P)
theorem awpS_eq (P : Program) : awpS P = awp P := sealed_eq _
theorem aopsS_eq (P : Program) : aopsS P = aops P := sealed_eq _
theorem stepS_eq (P : Program) : stepS P = stepO P := sealed_eq _

theorem aloop {β : Type} {x : AC} {Q : Exit → St → Prop} {s : St} (S : β → St) (I : β → Prop) (μ : β → Nat) (b0 : β) (h0 : I b0) (hs0 : Le s (S b0))
    (round : ∀ b, I b → awpS P x (AThen (fun s' => ∃ b', I b' ∧ μ b' < μ b ∧ Le s' (S b')) Q) (S b)) : ALoop P x Q s :=
  fun c hc => awp_loop S I μ b0 h0 hs0 fun b hb => awp_sound c _ _ (by rw [hc]; have h := round b hb; rw [awpS_eq] at h; exact h)

theorem adraw {os : List DOper} {Q : Exit → St → Prop} {s : St} (hm : P.follows .mixedOrders = true) (dc : List (List Nat)) (h : adr P dc os 0 s (Q .normal)) : ADraw P os Q s := by
  intro id ops hc
  simp only [compC] at hc
  split at hc
  · rename_i hk
    rw [Bool.and_eq_true] at hk
    injection hc with hc
    subst hc
    exact adr_sound hm hk.1 hk.2 h
  · cases hc

/-- a function's text -/
def Has (P : Program) (f : FuncId) (k : Nat) (rs : List AR) (ac : AC) : Prop :=
  ∃ fn c, P.funcs[f]? = some fn ∧ fn.body = some c ∧ compC P c = ac ∧ fn.results.toList.map (compR P) = rs ∧ fn.ntmps = k ∧ (fn.name == "runtime.NumGoroutine") = false

theorem Has.calls {f : FuncId} {k : Nat} {rs : List AR} {ac : AC} (hf : Has P f k rs ac) {ds : List D} {n : Nat} {h : Heap} {R : D → Heap → List Blk → Prop}
    (hbody : LowH n h → awpS P ac (FnQ rs R) ⟨n, ds ++ List.replicate (k - ds.length) .top, h, List.replicate k blk0⟩) : ACalls P f ds n h R := by
  obtain ⟨fn, c, h1, h2, h3, h4, h5, h6⟩ := hf
  refine acalls_of_awp h1 h2 h6 fun hl => awp_sound c _ _ ?_
  rw [h3, h4, h5]
  have h := hbody hl
  rw [awpS_eq] at h
  exact h

end Abs
end Go.Proofs.Ytfojedaccfenfab
