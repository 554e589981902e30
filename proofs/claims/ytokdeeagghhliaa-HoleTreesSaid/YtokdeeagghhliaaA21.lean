/- The model's code as the abstract run takes it. Printed by wip/tools/mksym.py: the abstract run's steps, as equations over a state that is written out. Shortcuts: what a function hands back, states that tell less, calls. -/
import Derived.Test.YtokdeeagghhliaaA15
import Derived.Test.YtokdeeagghhliaaA19
namespace Go.Proofs.Ytokdeeagghhliaa
namespace Abs
set_option linter.unusedVariables false

inductive AC where
  | skip
  | region (os : List AOper)
  | draw (os : List DOper)
  | seq (x y : AC)
  | cond (c : Opd) (x y : AC)
  | block (id : Nat) (x : AC)
  | loop (x : AC)
  | exit (id : Nat)
  | ret
  | bad

def compC (P : Program) : Code → AC
  | .skip => .skip
  | .region _ ops false => .region (ops.toList.map (aoper P ops))
  | .region _ ops true => if preOk ops.toList (preOf ops.toList) && apartOk (ops.toList.map (aoper P ops)) (preOf ops.toList) then .draw (dops (ops.toList.map (aoper P ops)) (preOf ops.toList)) else .bad
  | .seq x y => .seq (compC P x) (compC P y)
  | .cond c x y => .cond (opd c) (compC P x) (compC P y)
  | .block id x => .block id (compC P x)
  | .loop x => .loop (compC P x)
  | .exit id => .exit id
  | .ret => .ret
  | _ => .bad

/-- a loop: whatever code it stands for -/
def ALoop (P : Program) (x : AC) (Q : Exit → St → Prop) (s : St) : Prop := ∀ c, compC P c = x → Awp P (.loop c) Q s

/-- a region whose order is left open: whatever code it stands for -/
def ADraw (P : Program) (os : List DOper) (Q : Exit → St → Prop) (s : St) : Prop := ∀ id ops, compC P (.region id ops true) = .draw os → Awp P (.region id ops true) Q s

def awp (P : Program) : AC → (Exit → St → Prop) → St → Prop
  | .skip, Q, s => Q .normal s
  | .region os, Q, s => aops P os s (Q .normal)
  | .draw os, Q, s => ADraw P os Q s
  | .seq x y, Q, s => awp P x (AThen (awp P y Q) Q) s
  | .cond c x y, Q, s => match s.val c with
    | .bool b => condP b (awp P x Q s) (awp P y Q s)
    | .abool => awp P x Q s ∧ awp P y Q s
    | _ => False
  | .block id x, Q, s => awp P x (AInBlock id Q) s
  | .loop x, Q, s => ALoop P x Q s
  | .exit id, Q, s => Q (.exit id) s
  | .ret, Q, s => Q .ret s
  | .bad, _, _ => False

variable {P : Program}

theorem awp_sound : ∀ (c : Code) (Q : Exit → St → Prop) (s : St), awp P (compC P c) Q s → Awp P c Q s
  | .skip, Q, s, h => awp_skip h
  | .region id ops draw, Q, s, h => by
    cases draw with
    | false => exact awp_region h
    | true =>
      have hc : compC P (.region id ops true) = .draw (dops (ops.toList.map (aoper P ops)) (preOf ops.toList)) ∨ compC P (.region id ops true) = .bad := by
        simp only [compC]
        split
        · exact .inl rfl
        · exact .inr rfl
      rcases hc with hc | hc
      · rw [hc] at h; exact h id ops hc
      · rw [hc] at h; exact h.elim
  | .seq x y, Q, s, h => awp_seq (awp_mono (awp_sound x _ s h) fun e s' hq => by
      cases e with
      | normal => exact awp_sound y Q s' hq
      | _ => exact hq)
  | .cond c x y, Q, s, h => by
    refine awp_cond ?_
    simp only [compC, awp] at h
    revert h
    cases s.val (opd c) <;> intro h <;> first | exact h.elim | (simp only [condP_iff] at h)
    · exact ⟨awp_sound x Q s h.1, awp_sound y Q s h.2⟩
    · exact ⟨fun hb => awp_sound x Q s (h.1 hb), fun hb => awp_sound y Q s (h.2 hb)⟩
  | .block id x, Q, s, h => awp_block (awp_sound x _ s h)
  | .loop x, Q, s, h => h x rfl
  | .exit id, Q, s, h => awp_exit h
  | .ret, Q, s, h => awp_ret h
  | .rangeFunc _ _ _ _, _, _, h => h.elim
  | .scope _, _, _, h => h.elim
  | .label _, _, _, h => h.elim
  | .goto _, _, _, h => h.elim
  | .refuse _, _, _, h => h.elim

/-! ### the same, sealed: nothing unfolds it but the equations that are told of it -/
noncomputable def Sealed {α : Type} (a : α) : α := (Classical.choice (⟨⟨a, rfl⟩⟩ : Nonempty {x : α // x = a})).1
theorem sealed_eq {α : Type} (a : α) : Sealed a = a := (Classical.choice (⟨⟨a, rfl⟩⟩ : Nonempty {x : α // x = a})).2
noncomputable def awpS (P : Program) : AC → (Exit → St → Prop) → St → Prop := Sealed (awp P)
noncomputable def aopsS (P : Program) : List AOper → St → (St → Prop) → Prop := Sealed (aops P)
noncomputable def stepS (P : Program) : AOper → St → (D → Chg → Prop) → Prop := Sealed (stepO P)
theorem awpS_eq (P : Program) : awpS P = awp P := sealed_eq _
theorem aopsS_eq (P : Program) : aopsS P = aops P := sealed_eq _
theorem stepS_eq (P : Program) : stepS P = stepO P := sealed_eq _

theorem aloop {β : Type} {x : AC} {Q : Exit → St → Prop} {s : St} (S : β → St) (I : β → Prop) (μ : β → Nat) (b0 : β) (h0 : I b0) (hs0 : Le s (S b0))
    (round : ∀ b, I b → awpS P x (AThen (fun s' => ∃ b', I b' ∧ μ b' < μ b ∧ Le s' (S b')) Q) (S b)) : ALoop P x Q s :=
  fun c hc => awp_loop S I μ b0 h0 hs0 fun b hb => awp_sound c _ _ (by rw [hc]; have h := round b hb; rw [awpS_eq] at h; exact h)

theorem adraw {os : List DOper} {Q : Exit → St → Prop} {s : St} (hm : P.follows .mixedOrders = true) (dc : List (List Nat)) (h : adr P dc os 0 s (Q .normal)) : ADraw P os Q s := by
  intro id ops hc
  simp only [compC] at hc
  split at hc
  · rename_i hk
    rw [Bool.and_eq_true] at hk
    injection hc with hc
    subst hc
    exact adr_sound hm hk.1 hk.2 h
  · cases hc

/-- a function's text -/
def Has (P : Program) (f : FuncId) (k : Nat) (rs : List AR) (ac : AC) : Prop :=
  ∃ fn c, P.funcs[f]? = some fn ∧ fn.body = some c ∧ compC P c = ac ∧ fn.results.toList.map (compR P) = rs ∧ fn.ntmps = k ∧ (fn.name == "runtime.NumGoroutine") = false

theorem Has.calls {f : FuncId} {k : Nat} {rs : List AR} {ac : AC} (hf : Has P f k rs ac) {ds : List D} {n : Nat} {h : Heap} {R : D → Heap → List Blk → Prop}
    (hbody : LowH n h → awpS P ac (FnQ rs R) ⟨n, ds ++ List.replicate (k - ds.length) .top, h, List.replicate k blk0⟩) : ACalls P f ds n h R := by
  obtain ⟨fn, c, h1, h2, h3, h4, h5, h6⟩ := hf
  refine acalls_of_awp h1 h2 h6 fun hl => awp_sound c _ _ ?_
  rw [h3, h4, h5]
  have h := hbody hl
  rw [awpS_eq] at h
  exact h

end Abs
end Go.Proofs.Ytokdeeagghhliaa

namespace Go.Proofs.Ytokdeeagghhliaa
namespace Abs
set_option linter.unusedVariables false
set_option linter.unusedSimpArgs false
section
variable {P : Program} {n : Nat} {sl : List D} {h : Heap} {lc : List Blk} {Q : Exit → St → Prop} {K : St → Prop}

theorem y_seq (x y : AC) : awpS P (.seq x y) Q (St.mk n sl h lc) = awpS P x (AThen (awpS P y Q) Q) (St.mk n sl h lc) := by simp only [awpS_eq, aopsS_eq, stepS_eq]; rfl
theorem y_skip : awpS P .skip Q (St.mk n sl h lc) = Q .normal (St.mk n sl h lc) := by simp only [awpS_eq, aopsS_eq, stepS_eq]; rfl
theorem y_region (os : List AOper) : awpS P (.region os) Q (St.mk n sl h lc) = aopsS P os (St.mk n sl h lc) (Q .normal) := by simp only [awpS_eq, aopsS_eq, stepS_eq]; rfl
theorem y_block (id : Nat) (x : AC) : awpS P (.block id x) Q (St.mk n sl h lc) = awpS P x (AInBlock id Q) (St.mk n sl h lc) := by simp only [awpS_eq, aopsS_eq, stepS_eq]; rfl
theorem y_exit (id : Nat) : awpS P (.exit id) Q (St.mk n sl h lc) = Q (.exit id) (St.mk n sl h lc) := by simp only [awpS_eq, aopsS_eq, stepS_eq]; rfl
theorem y_ret : awpS P .ret Q (St.mk n sl h lc) = Q .ret (St.mk n sl h lc) := by simp only [awpS_eq, aopsS_eq, stepS_eq]; rfl
theorem y_loop (x : AC) : awpS P (.loop x) Q (St.mk n sl h lc) = ALoop P x Q (St.mk n sl h lc) := by simp only [awpS_eq, aopsS_eq, stepS_eq]; rfl
theorem y_draw (os : List DOper) : awpS P (.draw os) Q (St.mk n sl h lc) = ADraw P os Q (St.mk n sl h lc) := by simp only [awpS_eq, aopsS_eq, stepS_eq]; rfl
theorem y_cond (c : Opd) (x y : AC) : awpS P (.cond c x y) Q (St.mk n sl h lc) = (match St.val (St.mk n sl h lc) c with | .bool b => condP b (awpS P x Q (St.mk n sl h lc)) (awpS P y Q (St.mk n sl h lc)) | .abool => awpS P x Q (St.mk n sl h lc) ∧ awpS P y Q (St.mk n sl h lc) | _ => False) := by simp only [awpS_eq, aopsS_eq, stepS_eq]; rfl
theorem y_condT (X Y : Prop) : condP true X Y = X := rfl
theorem y_condF (X Y : Prop) : condP false X Y = Y := rfl
theorem y_condP (b : Bool) (X Y : Prop) : condP b X Y = ((b = true → X) ∧ (b = false → Y)) := condP_iff b X Y
theorem y_condTT (X Y : Prop) : condG true true X Y = X := rfl
theorem y_condTF (X Y : Prop) : condG true false X Y = Y := rfl
theorem y_condFT (X Y : Prop) : condG false true X Y = Y := rfl
theorem y_condFF (X Y : Prop) : condG false false X Y = X := rfl
theorem y_condG (b want : Bool) (X Y : Prop) : condG b want X Y = ((b = want → X) ∧ (b ≠ want → Y)) := condG_iff b want X Y
theorem y_nil : aopsS P [] (St.mk n sl h lc) K = K (St.mk n sl h lc) := by simp only [awpS_eq, aopsS_eq, stepS_eq]; rfl
theorem y_cons (dst : Option Nat) (op : AOp) (os : List AOper) : aopsS P (⟨dst, op, .always⟩ :: os) (St.mk n sl h lc) K = stepS P ⟨dst, op, .always⟩ (St.mk n sl h lc) fun d δ => aopsS P os (St.fin (St.mk n sl h lc) dst d δ) K := by simp only [awpS_eq, aopsS_eq, stepS_eq]; rfl
theorem y_on (dst : Option Nat) (op : AOp) (t : Nat) (want : Bool) (os : List AOper) : aopsS P (⟨dst, op, .on t want⟩ :: os) (St.mk n sl h lc) K = (match nth sl t with | .bool b => condG b want (stepS P ⟨dst, op, .on t want⟩ (St.mk n sl h lc) fun d δ => aopsS P os (St.fin (St.mk n sl h lc) dst d δ) K) (aopsS P os (St.fin (St.mk n sl h lc) dst (.tup []) []) K) | .tup [] => aopsS P os (St.fin (St.mk n sl h lc) dst (.tup []) []) K | _ => False) := by simp only [awpS_eq, aopsS_eq, stepS_eq]; rfl
theorem y_mov (dst : Option Nat) (g : AGuard) (K : D → Chg → Prop) (x : Opd) : stepS P ⟨dst, .mov x, g⟩ (St.mk n sl h lc) K = run (St.mk n sl h lc) dst K (.mov x) := by simp only [awpS_eq, aopsS_eq, stepS_eq]; rfl
theorem y_pick (dst : Option Nat) (g : AGuard) (K : D → Chg → Prop) (c a b : Opd) : stepS P ⟨dst, .pick c a b, g⟩ (St.mk n sl h lc) K = run (St.mk n sl h lc) dst K (.pick c a b) := by simp only [awpS_eq, aopsS_eq, stepS_eq]; rfl
theorem y_alloc (dst : Option Nat) (g : AGuard) (K : D → Chg → Prop) (z : List D) : stepS P ⟨dst, .alloc z, g⟩ (St.mk n sl h lc) K = run (St.mk n sl h lc) dst K (.alloc z) := by simp only [awpS_eq, aopsS_eq, stepS_eq]; rfl
theorem y_box (dst : Option Nat) (g : AGuard) (K : D → Chg → Prop) (x : Opd) : stepS P ⟨dst, .box x, g⟩ (St.mk n sl h lc) K = run (St.mk n sl h lc) dst K (.box x) := by simp only [awpS_eq, aopsS_eq, stepS_eq]; rfl
theorem y_build (dst : Option Nat) (g : AGuard) (K : D → Chg → Prop) (z : List D) (ps : List (Nat × Nat × Opd)) : stepS P ⟨dst, .build z ps, g⟩ (St.mk n sl h lc) K = run (St.mk n sl h lc) dst K (.build z ps) := by simp only [awpS_eq, aopsS_eq, stepS_eq]; rfl
theorem y_buildSlice (dst : Option Nat) (g : AGuard) (K : D → Chg → Prop) (sz : Nat) (z : List D) (len : Nat) (ps : List (Nat × Nat × Opd)) : stepS P ⟨dst, .buildSlice sz z len ps, g⟩ (St.mk n sl h lc) K = run (St.mk n sl h lc) dst K (.buildSlice sz z len ps) := by simp only [awpS_eq, aopsS_eq, stepS_eq]; rfl
theorem y_load (dst : Option Nat) (g : AGuard) (K : D → Chg → Prop) (ag : Bool) (k : Nat) (a : Opd) : stepS P ⟨dst, .load ag k a, g⟩ (St.mk n sl h lc) K = run (St.mk n sl h lc) dst K (.load ag k a) := by simp only [awpS_eq, aopsS_eq, stepS_eq]; rfl
theorem y_store (dst : Option Nat) (g : AGuard) (K : D → Chg → Prop) (k : Nat) (a x : Opd) : stepS P ⟨dst, .store k a x, g⟩ (St.mk n sl h lc) K = run (St.mk n sl h lc) dst K (.store k a x) := by simp only [awpS_eq, aopsS_eq, stepS_eq]; rfl
theorem y_bin (dst : Option Nat) (g : AGuard) (K : D → Chg → Prop) (b : BinOp) (x y : Opd) : stepS P ⟨dst, .bin b x y, g⟩ (St.mk n sl h lc) K = run (St.mk n sl h lc) dst K (.bin b x y) := by simp only [awpS_eq, aopsS_eq, stepS_eq]; rfl
theorem y_eqb (dst : Option Nat) (g : AGuard) (K : D → Chg → Prop) (ng : Bool) (x y : Opd) : stepS P ⟨dst, .eqb ng x y, g⟩ (St.mk n sl h lc) K = run (St.mk n sl h lc) dst K (.eqb ng x y) := by simp only [awpS_eq, aopsS_eq, stepS_eq]; rfl
theorem y_nileq (dst : Option Nat) (g : AGuard) (K : D → Chg → Prop) (k : Nat) (ng : Bool) (x : Opd) : stepS P ⟨dst, .nileq k ng x, g⟩ (St.mk n sl h lc) K = run (St.mk n sl h lc) dst K (.nileq k ng x) := by simp only [awpS_eq, aopsS_eq, stepS_eq]; rfl
theorem y_eqs (dst : Option Nat) (g : AGuard) (K : D → Chg → Prop) (ng : Bool) (ks : List Nat) (x y : Opd) : stepS P ⟨dst, .eqs ng ks x y, g⟩ (St.mk n sl h lc) K = run (St.mk n sl h lc) dst K (.eqs ng ks x y) := by simp only [awpS_eq, aopsS_eq, stepS_eq]; rfl
theorem y_un (dst : Option Nat) (g : AGuard) (K : D → Chg → Prop) (u : UnOp) (x : Opd) : stepS P ⟨dst, .un u x, g⟩ (St.mk n sl h lc) K = run (St.mk n sl h lc) dst K (.un u x) := by simp only [awpS_eq, aopsS_eq, stepS_eq]; rfl
theorem y_conv (dst : Option Nat) (g : AGuard) (K : D → Chg → Prop) (k : IntKind) (x : Opd) : stepS P ⟨dst, .conv k x, g⟩ (St.mk n sl h lc) K = run (St.mk n sl h lc) dst K (.conv k x) := by simp only [awpS_eq, aopsS_eq, stepS_eq]; rfl
theorem y_nilck (dst : Option Nat) (g : AGuard) (K : D → Chg → Prop) (x : Opd) : stepS P ⟨dst, .nilck x, g⟩ (St.mk n sl h lc) K = run (St.mk n sl h lc) dst K (.nilck x) := by simp only [awpS_eq, aopsS_eq, stepS_eq]; rfl
theorem y_mkfn (dst : Option Nat) (g : AGuard) (K : D → Chg → Prop) (f : FuncId) (cs : List Opd) : stepS P ⟨dst, .mkfn f cs, g⟩ (St.mk n sl h lc) K = run (St.mk n sl h lc) dst K (.mkfn f cs) := by simp only [awpS_eq, aopsS_eq, stepS_eq]; rfl
theorem y_mkslice (dst : Option Nat) (g : AGuard) (K : D → Chg → Prop) (sz by' : Nat) (z : List D) (l c : Opd) : stepS P ⟨dst, .mkslice sz by' z l c, g⟩ (St.mk n sl h lc) K = run (St.mk n sl h lc) dst K (.mkslice sz by' z l c) := by simp only [awpS_eq, aopsS_eq, stepS_eq]; rfl
theorem y_slice (dst : Option Nat) (g : AGuard) (K : D → Chg → Prop) (sz : Nat) (x : Opd) (lo hi : Option Opd) : stepS P ⟨dst, .slice sz x lo hi, g⟩ (St.mk n sl h lc) K = run (St.mk n sl h lc) dst K (.slice sz x lo hi) := by simp only [awpS_eq, aopsS_eq, stepS_eq]; rfl
theorem y_slicez (dst : Option Nat) (g : AGuard) (K : D → Chg → Prop) (x : Opd) : stepS P ⟨dst, .slicez x, g⟩ (St.mk n sl h lc) K = run (St.mk n sl h lc) dst K (.slicez x) := by simp only [awpS_eq, aopsS_eq, stepS_eq]; rfl
theorem y_slicea (dst : Option Nat) (g : AGuard) (K : D → Chg → Prop) (m sz : Nat) (x : Opd) (lo hi : Option Opd) : stepS P ⟨dst, .slicea m sz x lo hi, g⟩ (St.mk n sl h lc) K = run (St.mk n sl h lc) dst K (.slicea m sz x lo hi) := by simp only [awpS_eq, aopsS_eq, stepS_eq]; rfl
theorem y_fieldAddr (dst : Option Nat) (g : AGuard) (K : D → Chg → Prop) (off : Nat) (x : Opd) : stepS P ⟨dst, .fieldAddr off x, g⟩ (St.mk n sl h lc) K = run (St.mk n sl h lc) dst K (.fieldAddr off x) := by simp only [awpS_eq, aopsS_eq, stepS_eq]; rfl
theorem y_field (dst : Option Nat) (g : AGuard) (K : D → Chg → Prop) (ag : Bool) (off k : Nat) (x : Opd) : stepS P ⟨dst, .field ag off k x, g⟩ (St.mk n sl h lc) K = run (St.mk n sl h lc) dst K (.field ag off k x) := by simp only [awpS_eq, aopsS_eq, stepS_eq]; rfl
theorem y_idxS (dst : Option Nat) (g : AGuard) (K : D → Chg → Prop) (sz : Nat) (x i : Opd) : stepS P ⟨dst, .idxS sz x i, g⟩ (St.mk n sl h lc) K = run (St.mk n sl h lc) dst K (.idxS sz x i) := by simp only [awpS_eq, aopsS_eq, stepS_eq]; rfl
theorem y_idxA (dst : Option Nat) (g : AGuard) (K : D → Chg → Prop) (m sz : Nat) (x i : Opd) : stepS P ⟨dst, .idxA m sz x i, g⟩ (St.mk n sl h lc) K = run (St.mk n sl h lc) dst K (.idxA m sz x i) := by simp only [awpS_eq, aopsS_eq, stepS_eq]; rfl
theorem y_idx (dst : Option Nat) (g : AGuard) (K : D → Chg → Prop) (ag : Bool) (m sz : Nat) (x i : Opd) : stepS P ⟨dst, .idx ag m sz x i, g⟩ (St.mk n sl h lc) K = run (St.mk n sl h lc) dst K (.idx ag m sz x i) := by simp only [awpS_eq, aopsS_eq, stepS_eq]; rfl
theorem y_len (dst : Option Nat) (g : AGuard) (K : D → Chg → Prop) (x : Opd) : stepS P ⟨dst, .len x, g⟩ (St.mk n sl h lc) K = run (St.mk n sl h lc) dst K (.len x) := by simp only [awpS_eq, aopsS_eq, stepS_eq]; rfl
theorem y_slen (dst : Option Nat) (g : AGuard) (K : D → Chg → Prop) (x : Opd) : stepS P ⟨dst, .slen x, g⟩ (St.mk n sl h lc) K = run (St.mk n sl h lc) dst K (.slen x) := by simp only [awpS_eq, aopsS_eq, stepS_eq]; rfl
theorem y_append (dst : Option Nat) (g : AGuard) (K : D → Chg → Prop) (sz by' : Nat) (x y : Opd) : stepS P ⟨dst, .append sz by' x y, g⟩ (St.mk n sl h lc) K = run (St.mk n sl h lc) dst K (.append sz by' x y) := by simp only [awpS_eq, aopsS_eq, stepS_eq]; rfl
theorem y_appendz (dst : Option Nat) (g : AGuard) (K : D → Chg → Prop) (sz by' : Nat) (z : List D) (x m : Opd) : stepS P ⟨dst, .appendz sz by' z x m, g⟩ (St.mk n sl h lc) K = run (St.mk n sl h lc) dst K (.appendz sz by' z x m) := by simp only [awpS_eq, aopsS_eq, stepS_eq]; rfl
theorem y_capz (dst : Option Nat) (g : AGuard) (K : D → Chg → Prop) (x : Opd) : stepS P ⟨dst, .capz x, g⟩ (St.mk n sl h lc) K = run (St.mk n sl h lc) dst K (.capz x) := by simp only [awpS_eq, aopsS_eq, stepS_eq]; rfl
theorem y_minmax (dst : Option Nat) (g : AGuard) (K : D → Chg → Prop) (mx : Bool) (xs : List Opd) : stepS P ⟨dst, .minmax mx xs, g⟩ (St.mk n sl h lc) K = run (St.mk n sl h lc) dst K (.minmax mx xs) := by simp only [awpS_eq, aopsS_eq, stepS_eq]; rfl
theorem y_extract (dst : Option Nat) (g : AGuard) (K : D → Chg → Prop) (x : Opd) (i : Nat) : stepS P ⟨dst, .extract x i, g⟩ (St.mk n sl h lc) K = run (St.mk n sl h lc) dst K (.extract x i) := by simp only [awpS_eq, aopsS_eq, stepS_eq]; rfl
theorem y_mkmap (dst : Option Nat) (g : AGuard) (K : D → Chg → Prop)  : stepS P ⟨dst, .mkmap, g⟩ (St.mk n sl h lc) K = run (St.mk n sl h lc) dst K (.mkmap) := by simp only [awpS_eq, aopsS_eq, stepS_eq]; rfl
theorem y_lookup (dst : Option Nat) (g : AGuard) (K : D → Chg → Prop) (m : Nat) (z : D) (x i : Opd) : stepS P ⟨dst, .lookup m z x i, g⟩ (St.mk n sl h lc) K = run (St.mk n sl h lc) dst K (.lookup m z x i) := by simp only [awpS_eq, aopsS_eq, stepS_eq]; rfl
theorem y_lookv (dst : Option Nat) (g : AGuard) (K : D → Chg → Prop) (m : Nat) (z : D) (x i : Opd) : stepS P ⟨dst, .lookv m z x i, g⟩ (St.mk n sl h lc) K = run (St.mk n sl h lc) dst K (.lookv m z x i) := by simp only [awpS_eq, aopsS_eq, stepS_eq]; rfl
theorem y_mupd (dst : Option Nat) (g : AGuard) (K : D → Chg → Prop) (q : Nat) (m k x : Opd) : stepS P ⟨dst, .mupd q m k x, g⟩ (St.mk n sl h lc) K = run (St.mk n sl h lc) dst K (.mupd q m k x) := by simp only [awpS_eq, aopsS_eq, stepS_eq]; rfl
theorem y_then (nx : St → Prop) : AThen nx Q .normal (St.mk n sl h lc) = nx (St.mk n sl h lc) := rfl
theorem y_then_exit (nx : St → Prop) (id : Nat) : AThen nx Q (.exit id) (St.mk n sl h lc) = Q (.exit id) (St.mk n sl h lc) := rfl
theorem y_then_ret (nx : St → Prop) : AThen nx Q .ret (St.mk n sl h lc) = Q .ret (St.mk n sl h lc) := rfl
theorem y_in (id : Nat) : AInBlock id Q .normal (St.mk n sl h lc) = Q .normal (St.mk n sl h lc) := rfl
theorem y_in_exit (id id' : Nat) : AInBlock id Q (.exit id') (St.mk n sl h lc) = if id' = id then Q .normal (St.mk n sl h lc) else Q (.exit id') (St.mk n sl h lc) := rfl
theorem y_in_ret (id : Nat) : AInBlock id Q .ret (St.mk n sl h lc) = Q .ret (St.mk n sl h lc) := rfl
theorem y_val (d : D) : St.val (St.mk n sl h lc) (.val d) = d := rfl
theorem y_tmp (t : Nat) : St.val (St.mk n sl h lc) (.tmp t) = nth sl t := rfl
theorem y_nth0 (a : D) (l : List D) : nth (a :: l) 0 = a := rfl
theorem y_nth (a : D) (l : List D) (k : Nat) : nth (a :: l) (k + 1) = nth l k := rfl
theorem y_fin (dst : Option Nat) (d : D) : St.fin (St.mk n sl h lc) dst d [] = St.mk n (setD sl dst d) h lc := rfl
theorem y_fin_loc (dst : Option Nat) (d : D) (t : Nat) (x : Blk) : St.fin (St.mk n sl h lc) dst d [(n + t, x)] = St.mk n (setD sl dst d) h (lc.set t x) := by simp [St.fin, St.app, St.app1, Nat.not_lt.2 (Nat.le_add_right n t)]
theorem y_fin_locs (dst : Option Nat) (d : D) (t : Nat) (x : Blk) (q : Nat × Blk) (δ : Chg) : St.fin (St.mk n sl h lc) dst d ((n + t, x) :: q :: δ) = St.fin (St.mk n sl h (lc.set t x)) dst d (q :: δ) := by simp [St.fin, St.app, St.app1, Nat.not_lt.2 (Nat.le_add_right n t)]
theorem y_fin_old (dst : Option Nat) (d : D) (b : Nat) (x : Blk) (hb : b < n) : St.fin (St.mk n sl h lc) dst d [(b, x)] = St.mk n (setD sl dst d) (upd h b x) lc := by simp [St.fin, St.app, St.app1, hb]
theorem y_at_loc (t ver : Nat) (K : List D → Prop) : St.at (St.mk n sl h lc) (n + t) ver K = (match lc.getD t blk0 with | ⟨v, .cells cs⟩ => v = ver ∧ K cs | _ => False) := by unfold St.at St.blk; rw [mrg_loc]; rfl
theorem y_at_loc0 (ver : Nat) (K : List D → Prop) : St.at (St.mk n sl h lc) n ver K = (match lc.getD 0 blk0 with | ⟨v, .cells cs⟩ => v = ver ∧ K cs | _ => False) := y_at_loc 0 ver K
theorem y_atm_loc (t ver : Nat) (K : List (List Int × D) → Prop) : St.atm (St.mk n sl h lc) (n + t) ver K = (match lc.getD t blk0 with | ⟨v, .map es⟩ => v = ver ∧ K es | _ => False) := by unfold St.atm St.blk; rw [mrg_loc]; rfl
theorem y_key1 (a : Int) : keyD (.int .i64 a) = some [a] := rfl
theorem y_key2 (a b : Int) : keyD (.agg [.int .i64 a, .int .i64 b]) = some [a, b] := rfl
theorem y_mlook (s : St) (m b ver : Nat) (z : D) (kk : List Int) (K : D → Bool → Prop) : mlook s m (.map b ver) z (some kk) K = s.atm b ver fun es => kk.length = m ∧ klen m es = true ∧ mres z (mget es kk) K := rfl
theorem y_mlookn (s : St) (m : Nat) (z : D) (kk : List Int) (K : D → Bool → Prop) : mlook s m .nilmap z (some kk) K = (kk.length = m ∧ K z false) := rfl
theorem y_mres1 (z d : D) (K : D → Bool → Prop) : mres z (some d) K = K d true := rfl
theorem y_mres0 (z : D) (K : D → Bool → Prop) : mres z none K = K z false := rfl
theorem y_fin_loc0 (dst : Option Nat) (d : D) (x : Blk) : St.fin (St.mk n sl h lc) dst d [(n, x)] = St.mk n (setD sl dst d) h (lc.set 0 x) := y_fin_loc dst d 0 x
theorem y_retcell (t : Nat) (ag : Bool) (k : Nat) (K : D → Prop) : resVal (St.mk n sl h lc) (.cell t ag k) K = (match nth sl t with | .adr cs => ld ag k cs 0 K | .ptr b ver off => St.at (St.mk n sl h lc) b ver fun cs => ld ag k cs off K | _ => False) := rfl
theorem y_new (t : Nat) (con : Con) (K : Nat → Nat → Chg → Prop) : St.new (St.mk n sl h lc) (some t) con K = (t < lc.length ∧ (lc.getD t blk0).con.isOpq = false ∧ K (n + t) (lver lc t) [(n + t, ⟨lver lc t, con⟩)]) := rfl
theorem y_ld_agg (k : Nat) (cs : List D) (off : Nat) (K : D → Prop) : ld true k cs off K = (off + k ≤ cs.length ∧ K (.agg ((cs.drop off).take k))) := rfl
theorem y_ld (k : Nat) (cs : List D) (off : Nat) (K : D → Prop) : ld false k cs off K = (off < cs.length ∧ K (nth cs off)) := rfl
theorem y_fill0 (cs : List D) (K : List D → Prop) : fillD cs [] K = K cs := rfl
theorem y_fill (cs : List D) (off k : Nat) (d : D) (r : List (Nat × Nat × D)) (K : List D → Prop) : fillD cs ((off, k, d) :: r) K = (d.solid = true ∧ d.cells.length = k ∧ off + k ≤ cs.length ∧ fillD (splice cs off d.cells) r K) := rfl
theorem y_rets_nil (s : St) (K : List D → Prop) : resAll s [] K = K [] := rfl
theorem y_rets (s : St) (r : AR) (rs : List AR) (K : List D → Prop) : resAll s (r :: rs) K = resVal s r fun d => resAll s rs fun ds => K (d :: ds) := rfl
theorem y_rettmp (t : Nat) (K : D → Prop) : resVal (St.mk n sl h lc) (.tmp t) K = K (nth sl t) := rfl
theorem y_q_ret (rs : List AR) (R : D → Heap → List Blk → Prop) (s : St) : FnQ rs R .ret s = resAll s rs (Fin s R) := rfl
theorem y_q_normal (rs : List AR) (R : D → Heap → List Blk → Prop) (s : St) : FnQ rs R .normal s = resAll s rs (Fin s R) := rfl
theorem y_blk0_opq : blk0.con.isOpq = false := rfl
theorem y_blk0_ver : blk0.ver = 0 := rfl
theorem y_none_opq : Con.none.isOpq = false := rfl
theorem y_cells_opq (cs : List D) : (Con.cells cs).isOpq = false := rfl
theorem y_map_opq (es : List (List Int × D)) : (Con.map es).isOpq = false := rfl
theorem y_set_none (d : D) : setD sl none d = sl := rfl
theorem y_set_some (t : Nat) (d : D) : setD sl (some t) d = sl.set t d := rfl
theorem y_ones0 : (∀ c, c ∈ ([] : List D) → D.one c = true) = True := by simp
theorem y_ones (a : D) (l : List D) : (∀ c, c ∈ a :: l → D.one c = true) = (D.one a = true ∧ ∀ c, c ∈ l → D.one c = true) := by simp
theorem y_ones_ints (l : List Int) : (∀ c, c ∈ l.map (D.int .i64) → D.one c = true) = True := by simp; intros; rfl
theorem y_one_abool  : D.one (.abool) = true := rfl
theorem y_sol_abool  : D.solid (.abool) = true := rfl
theorem y_cel_abool  : D.cells (.abool) = [.abool] := rfl
theorem y_one_bool (b : Bool) : D.one (.bool b) = true := rfl
theorem y_sol_bool (b : Bool) : D.solid (.bool b) = true := rfl
theorem y_cel_bool (b : Bool) : D.cells (.bool b) = [.bool b] := rfl
theorem y_one_int (k : IntKind) (i : Int) : D.one (.int k i) = true := rfl
theorem y_sol_int (k : IntKind) (i : Int) : D.solid (.int k i) = true := rfl
theorem y_cel_int (k : IntKind) (i : Int) : D.cells (.int k i) = [.int k i] := rfl
theorem y_one_str (s : ByteArray) : D.one (.str s) = true := rfl
theorem y_sol_str (s : ByteArray) : D.solid (.str s) = true := rfl
theorem y_cel_str (s : ByteArray) : D.cells (.str s) = [.str s] := rfl
theorem y_one_nils  : D.one (.nils) = true := rfl
theorem y_sol_nils  : D.solid (.nils) = true := rfl
theorem y_cel_nils  : D.cells (.nils) = [.nils] := rfl
theorem y_one_emp  : D.one (.emp) = true := rfl
theorem y_sol_emp  : D.solid (.emp) = true := rfl
theorem y_cel_emp  : D.cells (.emp) = [.emp] := rfl
theorem y_one_lst (l : List D) : D.one (.lst l) = true := rfl
theorem y_sol_lst (l : List D) : D.solid (.lst l) = true := rfl
theorem y_cel_lst (l : List D) : D.cells (.lst l) = [.lst l] := rfl
theorem y_one_ref (sz b v o l : Nat) : D.one (.ref sz b v o l) = true := rfl
theorem y_sol_ref (sz b v o l : Nat) : D.solid (.ref sz b v o l) = true := rfl
theorem y_cel_ref (sz b v o l : Nat) : D.cells (.ref sz b v o l) = [.ref sz b v o l] := rfl
theorem y_one_adr (cs : List D) : D.one (.adr cs) = true := rfl
theorem y_sol_adr (cs : List D) : D.solid (.adr cs) = true := rfl
theorem y_cel_adr (cs : List D) : D.cells (.adr cs) = [.adr cs] := rfl
theorem y_one_ptr (b v o : Nat) : D.one (.ptr b v o) = true := rfl
theorem y_sol_ptr (b v o : Nat) : D.solid (.ptr b v o) = true := rfl
theorem y_cel_ptr (b v o : Nat) : D.cells (.ptr b v o) = [.ptr b v o] := rfl
theorem y_one_nilp  : D.one (.nilp) = true := rfl
theorem y_sol_nilp  : D.solid (.nilp) = true := rfl
theorem y_cel_nilp  : D.cells (.nilp) = [.nilp] := rfl
theorem y_one_fn (f : FuncId) (cs : List D) : D.one (.fn f cs) = true := rfl
theorem y_sol_fn (f : FuncId) (cs : List D) : D.solid (.fn f cs) = true := rfl
theorem y_cel_fn (f : FuncId) (cs : List D) : D.cells (.fn f cs) = [.fn f cs] := rfl
theorem y_one_nilfn  : D.one (.nilfn) = true := rfl
theorem y_sol_nilfn  : D.solid (.nilfn) = true := rfl
theorem y_cel_nilfn  : D.cells (.nilfn) = [.nilfn] := rfl
theorem y_one_map (b v : Nat) : D.one (.map b v) = true := rfl
theorem y_sol_map (b v : Nat) : D.solid (.map b v) = true := rfl
theorem y_cel_map (b v : Nat) : D.cells (.map b v) = [.map b v] := rfl
theorem y_one_nilmap  : D.one (.nilmap) = true := rfl
theorem y_sol_nilmap  : D.solid (.nilmap) = true := rfl
theorem y_cel_nilmap  : D.cells (.nilmap) = [.nilmap] := rfl
theorem y_sol_agg (cs : List D) : D.solid (.agg cs) = true := rfl
theorem y_cel_agg (cs : List D) : D.cells (.agg cs) = cs := rfl
end

end Abs
end Go.Proofs.Ytokdeeagghhliaa

namespace Go.Proofs.Ytokdeeagghhliaa
namespace Abs
set_option linter.unusedVariables false

variable {P : Program} {n : Nat} {sl : List D} {h : Heap} {lc : List Blk} {R : D → Heap → List Blk → Prop}

theorem wxok_nil {n : Nat} {lc : List Blk} : WxOk ⟨n, lc, [], []⟩ := ⟨rfl, fun i x k h => by simp at h, fun i j t h => by simp at h⟩

/-- a result that needs no block of the callee's -/
theorem fin_wk {d : D} {ds : List D} (hl : LowH n h) (hw : Wk ⟨n, lc, [], []⟩ (tupD ds) d) (hR : R d h []) : Fin (St.mk n sl h lc) R ds :=
  ⟨hl, [], [], d, wxok_nil, hw, by simp, hR⟩
theorem fin_low {ds : List D} (hl : LowH n h) (hd : Low n (tupD ds)) (hR : R (tupD ds) h []) : Fin (St.mk n sl h lc) R ds :=
  fin_wk hl (.low _ hd) hR
theorem fin_int {k : IntKind} {i j : Int} (hl : LowH n h) (e : i = j) : Fin (St.mk n sl h lc) (fun d h' x => h' = h ∧ x = [] ∧ d = .int k j) [.int k i] :=
  fin_low hl (.int ..) ⟨rfl, rfl, by rw [← e]; rfl⟩
theorem fin_bool {i j : Bool} (hl : LowH n h) (e : i = j) : Fin (St.mk n sl h lc) (fun d h' x => h' = h ∧ x = [] ∧ d = .bool j) [.bool i] :=
  fin_low hl (.bool _) ⟨rfl, rfl, by rw [← e]; rfl⟩
/-- a slice in an array of the callee's, cells low -/
theorem fin_ref {sz t ver off len : Nat} {cs : List D} (hl : LowH n h) (hb : lc[t]? = some ⟨ver, .cells cs⟩) (hv : 1 ≤ ver) (hc : ∀ c ∈ cs, Low n c)
    (hR : R (.ref sz (n + 0) ver off len) h [⟨ver, .cells cs⟩]) : Fin (St.mk n sl h lc) R [.ref sz (n + t) ver off len] := by
  have hg : lc.getD t blk0 = ⟨ver, .cells cs⟩ := by simp [List.getD, hb]
  refine ⟨hl, [.old t], [⟨ver, .cells cs⟩], _, ⟨rfl, ?_, ?_⟩, .ref sz t 0 ver ver off len rfl (by rw [hg]) rfl, by simpa using hv, hR⟩
  · intro i x k h1 h2
    cases i with
    | zero =>
      simp at h1 h2
      subst h1; subst h2
      exact ⟨hv, cs, by rw [hg], Nat.le_refl _, fun j d hj => by
        have : nth cs j = d := by simp [nth, List.getD, hj]
        rw [this]; exact .low _ (hc d (List.mem_of_getElem? hj))⟩
    | succ i => simp at h1
  · intro i j t' h1 h2
    cases i <;> cases j <;> simp at h1 h2 <;> rfl

/-- a slice in an array of the callee's, held to be data from now on: cells low, one cell each -/
theorem wk_frz1 {t ver off len : Nat} {cs l : List D} (hb : lc[t]? = some ⟨ver, .cells cs⟩) (hl : l.length = len) (hfit : off + len ≤ cs.length)
    (h1 : ∀ (i : Nat) (d : D), l[i]? = some d → d.cells = [d] ∧ nth cs (off + i) = d ∧ Low n d) : Wk ⟨n, lc, [], []⟩ (.ref 1 (n + t) ver off len) (.lst l) := by
  refine .frz 1 t ver off len cs l hb (by simp) hl (by omega) (fun d hd => ?_) fun i d hd j e he => ?_
  · obtain ⟨i, hi⟩ := List.mem_iff_getElem?.1 hd
    rw [(h1 i d hi).1]; rfl
  · obtain ⟨q1, q2, q3⟩ := h1 i d hd
    rw [q1] at he
    cases j with
    | zero =>
      simp at he; subst he
      rw [Nat.mul_one, Nat.add_zero, q2]; exact .low _ q3
    | succ j => simp at he

def WkL (X : Wx) : List D → List D → Prop
  | [], [] => True
  | _ :: ds, .top :: ds' => WkL X ds ds'
  | d :: ds, d' :: ds' => Wk X d d' ∧ WkL X ds ds'
  | _, _ => False

theorem WkL.len {X : Wx} : ∀ {ds ds' : List D}, WkL X ds ds' → ds'.length = ds.length
  | [], [], _ => rfl
  | [], _ :: _, h => by simp [WkL] at h
  | _ :: _, [], h => by simp [WkL] at h
  | d :: ds, d' :: ds', h => by
    have : WkL X ds ds' := by
      unfold WkL at h
      split at h <;> first | exact h | exact h.2 | (rename_i h1 h2; simp at h1) | (rename_i h1; cases h1) | skip
      all_goals simp_all
    simp [this.len]

theorem WkL.get {X : Wx} : ∀ {ds ds' : List D}, WkL X ds ds' → ∀ (i : Nat) (d d' : D), ds[i]? = some d → ds'[i]? = some d' → Wk X d d'
  | [], [], _, i, d, d', h1, _ => by simp at h1
  | [], _ :: _, h, _, _, _, _, _ => by simp [WkL] at h
  | _ :: _, [], h, _, _, _, _, _ => by simp [WkL] at h
  | d :: ds, d' :: ds', h, i, e, e', h1, h2 => by
    have : WkL X ds ds' ∧ Wk X d d' := by
      cases d' with
      | top => exact ⟨by simpa [WkL] using h, .top _⟩
      | _ => simp only [WkL] at h; exact ⟨h.2, h.1⟩
    cases i with
    | zero => simp at h1 h2; subst h1; subst h2; exact this.2
    | succ i => exact this.1.get i e e' (by simpa using h1) (by simpa using h2)

theorem WkL.low {X : Wx} : ∀ {ds : List D}, (∀ d ∈ ds, Low X.n d) → WkL X ds ds
  | [], _ => trivial
  | d :: ds, h => by
    have h1 := WkL.low (ds := ds) fun d hd => h d (by simp [hd])
    cases d with
    | top => exact h1
    | _ => exact ⟨.low _ (h _ (by simp)), h1⟩

def BlkAll (X : Wx) : List Src1 → List Blk → Prop
  | [], [] => True
  | .hole :: g, ⟨_, .none⟩ :: l => BlkAll X g l
  | .nil :: g, ⟨v, .cells []⟩ :: l => 1 ≤ v ∧ BlkAll X g l
  | .old t :: g, ⟨v, .cells cs'⟩ :: l => 1 ≤ v ∧ (∃ cs, (X.lc.getD t blk0).con = .cells cs ∧ WkL X cs cs') ∧ BlkAll X g l
  | _, _ => False

theorem BlkAll.get {X : Wx} : ∀ {g : List Src1} {l : List Blk}, BlkAll X g l → l.length = g.length ∧ ∀ (i : Nat) (x : Src1) (k : Blk), g[i]? = some x → l[i]? = some k → BlkWk X x k := by
  intro g
  induction g with
  | nil => intro l h; cases l with
    | nil => exact ⟨rfl, fun i x k h => by simp at h⟩
    | cons k l => simp [BlkAll] at h
  | cons y g ih =>
    intro l h
    cases l with
    | nil => cases y <;> simp [BlkAll] at h
    | cons k l =>
      have key : BlkAll X g l ∧ BlkWk X y k := by
        cases y with
        | hole =>
          cases k with
          | mk v c => cases c <;> first | exact ⟨h, trivial⟩ | exact h.elim
        | nil =>
          cases k with
          | mk v c => cases c <;> first | exact h.elim | (rename_i cs; cases cs <;> first | exact ⟨h.2, h.1⟩ | exact h.elim)
        | old t =>
          cases k with
          | mk v c => cases c <;> first | exact h.elim | (obtain ⟨h1, ⟨cs, h2, h3⟩, h4⟩ := h; exact ⟨h4, h1, cs, h2, Nat.le_of_eq h3.len, fun j d' hd' => by
              have hj : j < cs.length := by
                have := (List.getElem?_eq_some_iff.1 hd').1
                have := h3.len
                omega
              exact h3.get j _ d' (nth_get hj) hd'⟩)
      obtain ⟨h1, h2⟩ := ih key.1
      refine ⟨by simp [h1], fun i x k' hx hk => ?_⟩
      cases i with
      | zero => simp at hx hk; subst hx; subst hk; exact key.2
      | succ i => exact h2 i x k' (by simpa using hx) (by simpa using hk)

def olds (g : List Src1) : List Nat := g.filterMap fun | .old t => some t | _ => none
def nodupB : List Nat → Bool
  | [] => true
  | a :: l => !l.contains a && nodupB l

theorem olds_inj : ∀ (g : List Src1), nodupB (olds g) = true → ∀ (i j t : Nat), g[i]? = some (.old t) → g[j]? = some (.old t) → i = j
  | [], _, i, j, t, h, _ => by simp at h
  | y :: g, hn, i, j, t, h1, h2 => by
    have mem : ∀ (i t : Nat), g[i]? = some (.old t) → t ∈ olds g := fun i t h => List.mem_filterMap.2 ⟨_, List.mem_of_getElem? h, rfl⟩
    have hg : nodupB (olds g) = true := by
      cases y with
      | old u =>
        have : olds (.old u :: g) = u :: olds g := rfl
        rw [this] at hn
        simp only [nodupB, Bool.and_eq_true] at hn
        exact hn.2
      | _ => exact hn
    have hu : y = .old t → t ∉ olds g := fun e => by
      subst e
      have : olds (.old t :: g) = t :: olds g := rfl
      rw [this] at hn
      simp only [nodupB, Bool.and_eq_true, Bool.not_eq_true', List.contains_eq_mem, decide_eq_false_iff_not] at hn
      exact hn.1
    cases i with
    | zero => cases j with
      | zero => rfl
      | succ j => simp at h1 h2; exact (hu h1 (mem j t h2)).elim
    | succ i => cases j with
      | zero => simp at h1 h2; exact (hu h2 (mem i t h1)).elim
      | succ j => simp at h1 h2; rw [olds_inj g hg i j t h1 h2]

/-- a state that tells less -/
theorem le_to {sl' : List D} {lc' : List Blk} (g : List Src1) (hl : LowH n h) (hn : nodupB (olds g) = true) (hb : BlkAll ⟨n, lc, g, lc'⟩ g lc') (hw : WkL ⟨n, lc, g, lc'⟩ sl sl') :
    Le (St.mk n sl h lc) (St.mk n sl' h lc') :=
  le_wk g hl ⟨hb.get.1, hb.get.2, olds_inj g hn⟩ hw.len hw.get

theorem le_toh {h' : Heap} {sl' : List D} {lc' : List Blk} (g : List Src1) (hl : LowH n h) (eh : h' = h) (hn : nodupB (olds g) = true) (hb : BlkAll ⟨n, lc, g, lc'⟩ g lc') (hw : WkL ⟨n, lc, g, lc'⟩ sl sl') :
    Le (St.mk n sl h lc) (St.mk n sl' h' lc') := by subst eh; exact le_to g hl hn hb hw

theorem lowH_upd {b : Nat} {v : Nat} {cs : List D} (hl : LowH n h) (hc : ∀ c ∈ cs, Low n c) : LowH n (upd h b ⟨v, .cells cs⟩) := by
  intro b' hb'
  unfold upd
  by_cases e : b' = b
  · subst e; simpa using hc
  · simp only [e, if_false]; exact hl b' hb'
theorem upd_upd (h : Heap) (b : Nat) (x y : Blk) : upd (upd h b x) b y = upd h b y := by
  funext c; unfold upd; split <;> rfl
theorem upd_self {b : Nat} {x : Blk} (hb : h b = x) : upd h b x = h := by
  funext c; unfold upd; split
  · rename_i e; rw [e, hb]
  · rfl
theorem y_at_old {b ver : Nat} {K : List D → Prop} (hb : b < n) : St.at (St.mk n sl h lc) b ver K = (match h b with | ⟨v, .cells cs⟩ => v = ver ∧ K cs | _ => False) := by
  unfold St.at St.blk; rw [mrg_lt hb]; rfl
theorem y_atm_old {b ver : Nat} {K : List (List Int × D) → Prop} (hb : b < n) : St.atm (St.mk n sl h lc) b ver K = (match h b with | ⟨v, .map es⟩ => v = ver ∧ K es | _ => False) := by
  unfold St.atm St.blk; rw [mrg_lt hb]; rfl
theorem wk_old {X : Wx} {sz b ver off len len' : Nat} (hb : b < X.n) (e : len = len') : Wk X (.ref sz b ver off len) (.ref sz b ver off len') := e ▸ .low _ (.ref _ _ _ _ _ (.inl hb))

theorem fin_old {R : D → Heap → List Blk → Prop} {sz b ver off len : Nat} (hl : LowH n h) (hb : b < n) (hR : R (.ref sz b ver off len) h []) : Fin (St.mk n sl h lc) R [.ref sz b ver off len] :=
  fin_low hl (Bd.ref _ _ _ _ _ (.inl hb)) hR

theorem y_blk_end {X : Wx} : BlkAll X [] [] = True := rfl
theorem y_blk_hole {X : Wx} {g : List Src1} {l : List Blk} : BlkAll X (.hole :: g) (blk0 :: l) = BlkAll X g l := rfl
theorem y_blk_nil {X : Wx} {g : List Src1} {v : Nat} {l : List Blk} : BlkAll X (.nil :: g) (⟨v, .cells []⟩ :: l) = (1 ≤ v ∧ BlkAll X g l) := rfl
theorem y_blk_old {X : Wx} {g : List Src1} {v t : Nat} {cs' : List D} {l : List Blk} : BlkAll X (.old t :: g) (⟨v, .cells cs'⟩ :: l) = (1 ≤ v ∧ (∃ cs, (X.lc.getD t blk0).con = .cells cs ∧ WkL X cs cs') ∧ BlkAll X g l) := rfl
theorem y_wkl_end {X : Wx} : WkL X [] [] = True := rfl
theorem y_wkl_top {X : Wx} {d : D} {ds ds' : List D} : WkL X (d :: ds) (.top :: ds') = WkL X ds ds' := by simp [WkL]
theorem y_wkl {X : Wx} {d d' : D} {ds ds' : List D} (h : Wk X d d') (h' : WkL X ds ds') : WkL X (d :: ds) (d' :: ds') := by
  cases d' <;> first | exact ⟨h, h'⟩ | (simp only [WkL]; exact h')
theorem y_wkl_tops {X : Wx} : ∀ {ds : List D} {k : Nat}, ds.length = k → WkL X ds (List.replicate k .top)
  | [], 0, _ => trivial
  | d :: ds, k + 1, h => by simp only [List.replicate_succ, y_wkl_top]; exact y_wkl_tops (by simpa using h)
theorem wk_int {X : Wx} {k : IntKind} {i j : Int} (h : i = j) : Wk X (.int k i) (.int k j) := h ▸ .low _ (.int k i)
theorem wk_bool {X : Wx} {i j : Bool} (h : i = j) : Wk X (.bool i) (.bool j) := h ▸ .low _ (.bool i)
theorem wk_eq {X : Wx} {d d' : D} (h : d = d') (hl : Low X.n d) : Wk X d d' := h ▸ .low _ hl
theorem wk_ptr {X : Wx} {n t i ver ver' off : Nat} (hg : X.g[i]? = some (.old t)) (hn : X.n = n) (hv : (X.lc.getD t blk0).ver = ver) (hv' : (X.lc'.getD i blk0).ver = ver') : Wk X (.ptr (n + t) ver off) (.ptr (n + i) ver' off) :=
  hn ▸ .ptr t i ver ver' off hg hv hv'
theorem wk_ref {X : Wx} {n sz t i ver ver' off len len' : Nat} (hg : X.g[i]? = some (.old t)) (hn : X.n = n) (hv : (X.lc.getD t blk0).ver = ver) (hv' : (X.lc'.getD i blk0).ver = ver') (hl : len = len') : Wk X (.ref sz (n + t) ver off len) (.ref sz (n + i) ver' off len') :=
  hl ▸ hn ▸ .ref sz t i ver ver' off len hg hv hv'
theorem wk_nil {X : Wx} {n sz i ver' : Nat} (hg : X.g[i]? = some .nil) (hn : X.n = n) (hv' : (X.lc'.getD i blk0).ver = ver') : Wk X .nils (.ref sz (n + i) ver' 0 0) :=
  hn ▸ .nils sz i ver' hg hv'
theorem old_same {X : Wx} {t : Nat} {cs cs' : List D} (h : (X.lc.getD t blk0).con = .cells cs) (hw : WkL X cs cs') : ∃ cs, (X.lc.getD t blk0).con = .cells cs ∧ WkL X cs cs' := ⟨cs, h, hw⟩

theorem y_call {Q : D → Chg → Prop} (dst : Option Nat) (g : AGuard) (f : FuncId) (args : List Opd) :
    stepS P ⟨dst, .call f args, g⟩ (St.mk n sl h lc) Q = ACalls P f (args.map (St.val (St.mk n sl h lc))) (n + lc.length) (mrg n h lc) (callK (St.mk n sl h lc) dst Q) := by rw [stepS_eq]; rfl
theorem y_callv {Q : D → Chg → Prop} (dst : Option Nat) (g : AGuard) (x : Opd) (args : List Opd) :
    stepS P ⟨dst, .callv x args, g⟩ (St.mk n sl h lc) Q = (match St.val (St.mk n sl h lc) x with
    | .fn f caps => ACalls P f (args.map (St.val (St.mk n sl h lc)) ++ caps) (n + lc.length) (mrg n h lc) (callK (St.mk n sl h lc) dst Q)
    | _ => False) := by rw [stepS_eq]; rfl

/-- a function that changes nothing that its caller sees, and hands back r -/
def Pure (P : Program) (f : FuncId) (ds : List D) (r : D) : Prop := ∀ (n : Nat) (h : Heap), ACalls P f ds n h fun d h' x => h' = h ∧ x = [] ∧ d = r

theorem Pure.call {f : FuncId} {ds : List D} {r : D} (hp : Pure P f ds r) {N : Nat} {H : Heap} {s : St} {dst : Option Nat} {K : D → Chg → Prop} (hH : H = s.hp) (hK : K r []) : ACalls P f ds N H (callK s dst K) :=
  (hp N H).mono fun d h' x ⟨h1, h2, h3⟩ => .inl ⟨[], by simp [St.inr], h2, by rw [h1, hH]; rfl, by rw [h3]; exact hK⟩

end Abs
end Go.Proofs.Ytokdeeagghhliaa
