/- Printed by wip/tools/mksym.py: the abstract run's steps, as equations over a state that is written out. -/
import Derived.Test.YtfojedaccfenfabA16
namespace Go.Proofs.Ytfojedaccfenfab
namespace Abs
set_option linter.unusedVariables false
set_option linter.unusedSimpArgs false
section
variable {P : Program} {n : Nat} {sl : List D} {h : Heap} {lc : List Blk} {Q : Exit → St → Prop} {K : St → Prop}

theorem y_seq (x y : AC) : awpS P (.seq x y) Q (St.mk n sl h lc) = awpS P x (AThen (awpS P y Q) Q) (St.mk n sl h lc) := by simp only [awpS_eq, aopsS_eq, stepS_eq]; rfl
theorem y_skip : awpS P .skip Q (St.mk n sl h lc) = Q .normal (St.mk n sl h lc) := by simp only [awpS_eq, aopsS_eq, stepS_eq]; rfl
theorem y_region (os : List AOper) : awpS P (.region os) Q (St.mk n sl h lc) = aopsS P os (St.mk n sl h lc) (Q .normal) := by simp only [awpS_eq, aopsS_eq, stepS_eq]; rfl
theorem y_block (id : Nat) (x : AC) : awpS P (.block id x) Q (St.mk n sl h lc) = awpS P x (AInBlock id Q) (St.mk n sl h lc) := by simp only [awpS_eq, aopsS_eq, stepS_eq]; rfl
theorem y_exit (id : Nat) : awpS P (.exit id) Q (St.mk n sl h lc) = Q (.exit id) (St.mk n sl h lc) := by simp only [awpS_eq, aopsS_eq, stepS_eq]; rfl
theorem y_ret : awpS P .ret Q (St.mk n sl h lc) = Q .ret (St.mk n sl h lc) := by simp only [awpS_eq, aopsS_eq, stepS_eq]; rfl
theorem y_loop (x : AC) : awpS P (.loop x) Q (St.mk n sl h lc) = ALoop P x Q (St.mk n sl h lc) := by simp only [awpS_eq, aopsS_eq, stepS_eq]; rfl
theorem y_draw (os : List DOper) : awpS P (.draw os) Q (St.mk n sl h lc) = ADraw P os Q (St.mk n sl h lc) := by simp only [awpS_eq, aopsS_eq, stepS_eq]; rfl
theorem y_cond (c : Opd) (x y : AC) : awpS P (.cond c x y) Q (St.mk n sl h lc) = (match St.val (St.mk n sl h lc) c with | .bool b => condP b (awpS P x Q (St.mk n sl h lc)) (awpS P y Q (St.mk n sl h lc)) | .abool => awpS P x Q (St.mk n sl h lc) ∧ awpS P y Q (St.mk n sl h lc) | _ => False) := by simp only [awpS_eq, aopsS_eq, stepS_eq]; rfl
theorem y_condT (X Y : Prop) : condP true X Y = X := rfl
theorem y_condF (X Y : Prop) : condP false X Y = Y := rfl
theorem y_condP (b : Bool) (X Y : Prop) : condP b X Y = ((b = true → X) ∧ (b = false → Y)) := condP_iff b X Y
theorem y_condTT (X Y : Prop) : condG true true X Y = X := rfl
theorem y_condTF (X Y : Prop) : condG true false X Y = Y := rfl
theorem y_condFT (X Y : Prop) : condG false true X Y = Y := rfl
theorem y_condFF (X Y : Prop) : condG false false X Y = X := rfl
theorem y_condG (b want : Bool) (X Y : Prop) : condG b want X Y = ((b = want → X) ∧ (b ≠ want → Y)) := condG_iff b want X Y
theorem y_nil : aopsS P [] (St.mk n sl h lc) K = K (St.mk n sl h lc) := by simp only [awpS_eq, aopsS_eq, stepS_eq]; rfl
theorem y_cons (dst : Option Nat) (op : AOp) (os : List AOper) : aopsS P (⟨dst, op, .always⟩ :: os) (St.mk n sl h lc) K = stepS P ⟨dst, op, .always⟩ (St.mk n sl h lc) fun d δ => aopsS P os (St.fin (St.mk n sl h lc) dst d δ) K := by simp only [awpS_eq, aopsS_eq, stepS_eq]; rfl
theorem y_on (dst : Option Nat) (op : AOp) (t : Nat) (want : Bool) (os : List AOper) : aopsS P (⟨dst, op, .on t want⟩ :: os) (St.mk n sl h lc) K = (match nth sl t with | .bool b => condG b want (stepS P ⟨dst, op, .on t want⟩ (St.mk n sl h lc) fun d δ => aopsS P os (St.fin (St.mk n sl h lc) dst d δ) K) (aopsS P os (St.fin (St.mk n sl h lc) dst (.tup []) []) K) | .tup [] => aopsS P os (St.fin (St.mk n sl h lc) dst (.tup []) []) K | _ => False) := by simp only [awpS_eq, aopsS_eq, stepS_eq]; rfl
theorem y_mov (dst : Option Nat) (g : AGuard) (K : D → Chg → Prop) (x : Opd) : stepS P ⟨dst, .mov x, g⟩ (St.mk n sl h lc) K = run (St.mk n sl h lc) dst K (.mov x) := by simp only [awpS_eq, aopsS_eq, stepS_eq]; rfl
theorem y_pick (dst : Option Nat) (g : AGuard) (K : D → Chg → Prop) (c a b : Opd) : stepS P ⟨dst, .pick c a b, g⟩ (St.mk n sl h lc) K = run (St.mk n sl h lc) dst K (.pick c a b) := by simp only [awpS_eq, aopsS_eq, stepS_eq]; rfl
theorem y_alloc (dst : Option Nat) (g : AGuard) (K : D → Chg → Prop) (z : List D) : stepS P ⟨dst, .alloc z, g⟩ (St.mk n sl h lc) K = run (St.mk n sl h lc) dst K (.alloc z) := by simp only [awpS_eq, aopsS_eq, stepS_eq]; rfl
theorem y_box (dst : Option Nat) (g : AGuard) (K : D → Chg → Prop) (x : Opd) : stepS P ⟨dst, .box x, g⟩ (St.mk n sl h lc) K = run (St.mk n sl h lc) dst K (.box x) := by simp only [awpS_eq, aopsS_eq, stepS_eq]; rfl
theorem y_build (dst : Option Nat) (g : AGuard) (K : D → Chg → Prop) (z : List D) (ps : List (Nat × Nat × Opd)) : stepS P ⟨dst, .build z ps, g⟩ (St.mk n sl h lc) K = run (St.mk n sl h lc) dst K (.build z ps) := by simp only [awpS_eq, aopsS_eq, stepS_eq]; rfl
theorem y_buildSlice (dst : Option Nat) (g : AGuard) (K : D → Chg → Prop) (sz : Nat) (z : List D) (len : Nat) (ps : List (Nat × Nat × Opd)) : stepS P ⟨dst, .buildSlice sz z len ps, g⟩ (St.mk n sl h lc) K = run (St.mk n sl h lc) dst K (.buildSlice sz z len ps) := by simp only [awpS_eq, aopsS_eq, stepS_eq]; rfl
theorem y_load (dst : Option Nat) (g : AGuard) (K : D → Chg → Prop) (ag : Bool) (k : Nat) (a : Opd) : stepS P ⟨dst, .load ag k a, g⟩ (St.mk n sl h lc) K = run (St.mk n sl h lc) dst K (.load ag k a) := by simp only [awpS_eq, aopsS_eq, stepS_eq]; rfl
theorem y_store (dst : Option Nat) (g : AGuard) (K : D → Chg → Prop) (k : Nat) (a x : Opd) : stepS P ⟨dst, .store k a x, g⟩ (St.mk n sl h lc) K = run (St.mk n sl h lc) dst K (.store k a x) := by simp only [awpS_eq, aopsS_eq, stepS_eq]; rfl
theorem y_bin (dst : Option Nat) (g : AGuard) (K : D → Chg → Prop) (b : BinOp) (x y : Opd) : stepS P ⟨dst, .bin b x y, g⟩ (St.mk n sl h lc) K = run (St.mk n sl h lc) dst K (.bin b x y) := by simp only [awpS_eq, aopsS_eq, stepS_eq]; rfl
theorem y_eqb (dst : Option Nat) (g : AGuard) (K : D → Chg → Prop) (ng : Bool) (x y : Opd) : stepS P ⟨dst, .eqb ng x y, g⟩ (St.mk n sl h lc) K = run (St.mk n sl h lc) dst K (.eqb ng x y) := by simp only [awpS_eq, aopsS_eq, stepS_eq]; rfl
theorem y_nileq (dst : Option Nat) (g : AGuard) (K : D → Chg → Prop) (k : Nat) (ng : Bool) (x : Opd) : stepS P ⟨dst, .nileq k ng x, g⟩ (St.mk n sl h lc) K = run (St.mk n sl h lc) dst K (.nileq k ng x) := by simp only [awpS_eq, aopsS_eq, stepS_eq]; rfl
theorem y_eqs (dst : Option Nat) (g : AGuard) (K : D → Chg → Prop) (ng : Bool) (ks : List Nat) (x y : Opd) : stepS P ⟨dst, .eqs ng ks x y, g⟩ (St.mk n sl h lc) K = run (St.mk n sl h lc) dst K (.eqs ng ks x y) := by simp only [awpS_eq, aopsS_eq, stepS_eq]; rfl
theorem y_un (dst : Option Nat) (g : AGuard) (K : D → Chg → Prop) (u : UnOp) (x : Opd) : stepS P ⟨dst, .un u x, g⟩ (St.mk n sl h lc) K = run (St.mk n sl h lc) dst K (.un u x) := by simp only [awpS_eq, aopsS_eq, stepS_eq]; rfl
theorem y_conv (dst : Option Nat) (g : AGuard) (K : D → Chg → Prop) (k : IntKind) (x : Opd) : stepS P ⟨dst, .conv k x, g⟩ (St.mk n sl h lc) K = run (St.mk n sl h lc) dst K (.conv k x) := by simp only [awpS_eq, aopsS_eq, stepS_eq]; rfl
theorem y_nilck (dst : Option Nat) (g : AGuard) (K : D → Chg → Prop) (x : Opd) : stepS P ⟨dst, .nilck x, g⟩ (St.mk n sl h lc) K = run (St.mk n sl h lc) dst K (.nilck x) := by simp only [awpS_eq, aopsS_eq, stepS_eq]; rfl
theorem y_mkfn (dst : Option Nat) (g : AGuard) (K : D → Chg → Prop) (f : FuncId) (cs : List Opd) : stepS P ⟨dst, .mkfn f cs, g⟩ (St.mk n sl h lc) K = run (St.mk n sl h lc) dst K (.mkfn f cs) := by simp only [awpS_eq, aopsS_eq, stepS_eq]; rfl
theorem y_mkslice (dst : Option Nat) (g : AGuard) (K : D → Chg → Prop) (sz by' : Nat) (z : List D) (l c : Opd) : stepS P ⟨dst, .mkslice sz by' z l c, g⟩ (St.mk n sl h lc) K = run (St.mk n sl h lc) dst K (.mkslice sz by' z l c) := by simp only [awpS_eq, aopsS_eq, stepS_eq]; rfl
theorem y_slice (dst : Option Nat) (g : AGuard) (K : D → Chg → Prop) (sz : Nat) (x : Opd) (lo hi : Option Opd) : stepS P ⟨dst, .slice sz x lo hi, g⟩ (St.mk n sl h lc) K = run (St.mk n sl h lc) dst K (.slice sz x lo hi) := by simp only [awpS_eq, aopsS_eq, stepS_eq]; rfl
theorem y_slicez (dst : Option Nat) (g : AGuard) (K : D → Chg → Prop) (x : Opd) : stepS P ⟨dst, .slicez x, g⟩ (St.mk n sl h lc) K = run (St.mk n sl h lc) dst K (.slicez x) := by simp only [awpS_eq, aopsS_eq, stepS_eq]; rfl
theorem y_slicea (dst : Option Nat) (g : AGuard) (K : D → Chg → Prop) (m sz : Nat) (x : Opd) (lo hi : Option Opd) : stepS P ⟨dst, .slicea m sz x lo hi, g⟩ (St.mk n sl h lc) K = run (St.mk n sl h lc) dst K (.slicea m sz x lo hi) := by simp only [awpS_eq, aopsS_eq, stepS_eq]; rfl
theorem y_fieldAddr (dst : Option Nat) (g : AGuard) (K : D → Chg → Prop) (off : Nat) (x : Opd) : stepS P ⟨dst, .fieldAddr off x, g⟩ (St.mk n sl h lc) K = run (St.mk n sl h lc) dst K (.fieldAddr off x) := by simp only [awpS_eq, aopsS_eq, stepS_eq]; rfl
theorem y_field (dst : Option Nat) (g : AGuard) (K : D → Chg → Prop) (ag : Bool) (off k : Nat) (x : Opd) : stepS P ⟨dst, .field ag off k x, g⟩ (St.mk n sl h lc) K = run (St.mk n sl h lc) dst K (.field ag off k x) := by simp only [awpS_eq, aopsS_eq, stepS_eq]; rfl
theorem y_idxS (dst : Option Nat) (g : AGuard) (K : D → Chg → Prop) (sz : Nat) (x i : Opd) : stepS P ⟨dst, .idxS sz x i, g⟩ (St.mk n sl h lc) K = run (St.mk n sl h lc) dst K (.idxS sz x i) := by simp only [awpS_eq, aopsS_eq, stepS_eq]; rfl
theorem y_idxA (dst : Option Nat) (g : AGuard) (K : D → Chg → Prop) (m sz : Nat) (x i : Opd) : stepS P ⟨dst, .idxA m sz x i, g⟩ (St.mk n sl h lc) K = run (St.mk n sl h lc) dst K (.idxA m sz x i) := by simp only [awpS_eq, aopsS_eq, stepS_eq]; rfl
theorem y_idx (dst : Option Nat) (g : AGuard) (K : D → Chg → Prop) (ag : Bool) (m sz : Nat) (x i : Opd) : stepS P ⟨dst, .idx ag m sz x i, g⟩ (St.mk n sl h lc) K = run (St.mk n sl h lc) dst K (.idx ag m sz x i) := by simp only [awpS_eq, aopsS_eq, stepS_eq]; rfl
theorem y_len (dst : Option Nat) (g : AGuard) (K : D → Chg → Prop) (x : Opd) : stepS P ⟨dst, .len x, g⟩ (St.mk n sl h lc) K = run (St.mk n sl h lc) dst K (.len x) := by simp only [awpS_eq, aopsS_eq, stepS_eq]; rfl
theorem y_slen (dst : Option Nat) (g : AGuard) (K : D → Chg → Prop) (x : Opd) : stepS P ⟨dst, .slen x, g⟩ (St.mk n sl h lc) K = run (St.mk n sl h lc) dst K (.slen x) := by simp only [awpS_eq, aopsS_eq, stepS_eq]; rfl
theorem y_append (dst : Option Nat) (g : AGuard) (K : D → Chg → Prop) (sz by' : Nat) (x y : Opd) : stepS P ⟨dst, .append sz by' x y, g⟩ (St.mk n sl h lc) K = run (St.mk n sl h lc) dst K (.append sz by' x y) := by simp only [awpS_eq, aopsS_eq, stepS_eq]; rfl
theorem y_appendz (dst : Option Nat) (g : AGuard) (K : D → Chg → Prop) (sz by' : Nat) (z : List D) (x m : Opd) : stepS P ⟨dst, .appendz sz by' z x m, g⟩ (St.mk n sl h lc) K = run (St.mk n sl h lc) dst K (.appendz sz by' z x m) := by simp only [awpS_eq, aopsS_eq, stepS_eq]; rfl
theorem y_capz (dst : Option Nat) (g : AGuard) (K : D → Chg → Prop) (x : Opd) : stepS P ⟨dst, .capz x, g⟩ (St.mk n sl h lc) K = run (St.mk n sl h lc) dst K (.capz x) := by simp only [awpS_eq, aopsS_eq, stepS_eq]; rfl
theorem y_minmax (dst : Option Nat) (g : AGuard) (K : D → Chg → Prop) (mx : Bool) (xs : List Opd) : stepS P ⟨dst, .minmax mx xs, g⟩ (St.mk n sl h lc) K = run (St.mk n sl h lc) dst K (.minmax mx xs) := by simp only [awpS_eq, aopsS_eq, stepS_eq]; rfl
theorem y_extract (dst : Option Nat) (g : AGuard) (K : D → Chg → Prop) (x : Opd) (i : Nat) : stepS P ⟨dst, .extract x i, g⟩ (St.mk n sl h lc) K = run (St.mk n sl h lc) dst K (.extract x i) := by simp only [awpS_eq, aopsS_eq, stepS_eq]; rfl
theorem y_then (nx : St → Prop) : AThen nx Q .normal (St.mk n sl h lc) = nx (St.mk n sl h lc) := rfl
theorem y_then_exit (nx : St → Prop) (id : Nat) : AThen nx Q (.exit id) (St.mk n sl h lc) = Q (.exit id) (St.mk n sl h lc) := rfl
theorem y_then_ret (nx : St → Prop) : AThen nx Q .ret (St.mk n sl h lc) = Q .ret (St.mk n sl h lc) := rfl
theorem y_in (id : Nat) : AInBlock id Q .normal (St.mk n sl h lc) = Q .normal (St.mk n sl h lc) := rfl
theorem y_in_exit (id id' : Nat) : AInBlock id Q (.exit id') (St.mk n sl h lc) = if id' = id then Q .normal (St.mk n sl h lc) else Q (.exit id') (St.mk n sl h lc) := rfl
theorem y_in_ret (id : Nat) : AInBlock id Q .ret (St.mk n sl h lc) = Q .ret (St.mk n sl h lc) := rfl
theorem y_val (d : D) : St.val (St.mk n sl h lc) (.val d) = d := rfl
theorem y_tmp (t : Nat) : St.val (St.mk n sl h lc) (.tmp t) = nth sl t := rfl
theorem y_nth0 (a : D) (l : List D) : nth (a :: l) 0 = a := rfl
theorem y_nth (a : D) (l : List D) (k : Nat) : nth (a :: l) (k + 1) = nth l k := rfl
theorem y_fin (dst : Option Nat) (d : D) : St.fin (St.mk n sl h lc) dst d [] = St.mk n (setD sl dst d) h lc := rfl
theorem y_fin_loc (dst : Option Nat) (d : D) (t : Nat) (x : Blk) : St.fin (St.mk n sl h lc) dst d [(n + t, x)] = St.mk n (setD sl dst d) h (lc.set t x) := by simp [St.fin, St.app, St.app1, Nat.not_lt.2 (Nat.le_add_right n t)]
theorem y_fin_locs (dst : Option Nat) (d : D) (t : Nat) (x : Blk) (q : Nat × Blk) (δ : Chg) : St.fin (St.mk n sl h lc) dst d ((n + t, x) :: q :: δ) = St.fin (St.mk n sl h (lc.set t x)) dst d (q :: δ) := by simp [St.fin, St.app, St.app1, Nat.not_lt.2 (Nat.le_add_right n t)]
theorem y_fin_old (dst : Option Nat) (d : D) (b : Nat) (x : Blk) (hb : b < n) : St.fin (St.mk n sl h lc) dst d [(b, x)] = St.mk n (setD sl dst d) (upd h b x) lc := by simp [St.fin, St.app, St.app1, hb]
theorem y_at_loc (t ver : Nat) (K : List D → Prop) : St.at (St.mk n sl h lc) (n + t) ver K = (match lc.getD t blk0 with | ⟨v, .cells cs⟩ => v = ver ∧ K cs | _ => False) := by unfold St.at St.blk; rw [mrg_loc]; rfl
theorem y_at_loc0 (ver : Nat) (K : List D → Prop) : St.at (St.mk n sl h lc) n ver K = (match lc.getD 0 blk0 with | ⟨v, .cells cs⟩ => v = ver ∧ K cs | _ => False) := y_at_loc 0 ver K
theorem y_fin_loc0 (dst : Option Nat) (d : D) (x : Blk) : St.fin (St.mk n sl h lc) dst d [(n, x)] = St.mk n (setD sl dst d) h (lc.set 0 x) := y_fin_loc dst d 0 x
theorem y_retcell (t : Nat) (ag : Bool) (k : Nat) (K : D → Prop) : resVal (St.mk n sl h lc) (.cell t ag k) K = (match nth sl t with | .adr cs => ld ag k cs 0 K | .ptr b ver off => St.at (St.mk n sl h lc) b ver fun cs => ld ag k cs off K | _ => False) := rfl
theorem y_new (t : Nat) (con : Con) (K : Nat → Nat → Chg → Prop) : St.new (St.mk n sl h lc) (some t) con K = (t < lc.length ∧ (lc.getD t blk0).con.isOpq = false ∧ K (n + t) (lver lc t) [(n + t, ⟨lver lc t, con⟩)]) := rfl
theorem y_ld_agg (k : Nat) (cs : List D) (off : Nat) (K : D → Prop) : ld true k cs off K = (off + k ≤ cs.length ∧ K (.agg ((cs.drop off).take k))) := rfl
theorem y_ld (k : Nat) (cs : List D) (off : Nat) (K : D → Prop) : ld false k cs off K = (off < cs.length ∧ K (nth cs off)) := rfl
theorem y_fill0 (cs : List D) (K : List D → Prop) : fillD cs [] K = K cs := rfl
theorem y_fill (cs : List D) (off k : Nat) (d : D) (r : List (Nat × Nat × D)) (K : List D → Prop) : fillD cs ((off, k, d) :: r) K = (d.solid = true ∧ d.cells.length = k ∧ off + k ≤ cs.length ∧ fillD (splice cs off d.cells) r K) := rfl
theorem y_rets_nil (s : St) (K : List D → Prop) : resAll s [] K = K [] := rfl
theorem y_rets (s : St) (r : AR) (rs : List AR) (K : List D → Prop) : resAll s (r :: rs) K = resVal s r fun d => resAll s rs fun ds => K (d :: ds) := rfl
theorem y_rettmp (t : Nat) (K : D → Prop) : resVal (St.mk n sl h lc) (.tmp t) K = K (nth sl t) := rfl
theorem y_q_ret (rs : List AR) (R : D → Heap → List Blk → Prop) (s : St) : FnQ rs R .ret s = resAll s rs (Fin s R) := rfl
theorem y_q_normal (rs : List AR) (R : D → Heap → List Blk → Prop) (s : St) : FnQ rs R .normal s = resAll s rs (Fin s R) := rfl
theorem y_blk0_opq : blk0.con.isOpq = false := rfl
theorem y_blk0_ver : blk0.ver = 0 := rfl
theorem y_none_opq : Con.none.isOpq = false := rfl
theorem y_cells_opq (cs : List D) : (Con.cells cs).isOpq = false := rfl
theorem y_set_none (d : D) : setD sl none d = sl := rfl
theorem y_set_some (t : Nat) (d : D) : setD sl (some t) d = sl.set t d := rfl
theorem y_ones0 : (∀ c, c ∈ ([] : List D) → D.one c = true) = True := by simp
theorem y_ones (a : D) (l : List D) : (∀ c, c ∈ a :: l → D.one c = true) = (D.one a = true ∧ ∀ c, c ∈ l → D.one c = true) := by simp
theorem y_ones_ints (l : List Int) : (∀ c, c ∈ l.map (D.int .i64) → D.one c = true) = True := by simp; intros; rfl
theorem y_one_abool  : D.one (.abool) = true := rfl
theorem y_sol_abool  : D.solid (.abool) = true := rfl
theorem y_cel_abool  : D.cells (.abool) = [.abool] := rfl
theorem y_one_bool (b : Bool) : D.one (.bool b) = true := rfl
theorem y_sol_bool (b : Bool) : D.solid (.bool b) = true := rfl
theorem y_cel_bool (b : Bool) : D.cells (.bool b) = [.bool b] := rfl
theorem y_one_int (k : IntKind) (i : Int) : D.one (.int k i) = true := rfl
theorem y_sol_int (k : IntKind) (i : Int) : D.solid (.int k i) = true := rfl
theorem y_cel_int (k : IntKind) (i : Int) : D.cells (.int k i) = [.int k i] := rfl
theorem y_one_str (s : ByteArray) : D.one (.str s) = true := rfl
theorem y_sol_str (s : ByteArray) : D.solid (.str s) = true := rfl
theorem y_cel_str (s : ByteArray) : D.cells (.str s) = [.str s] := rfl
theorem y_one_nils  : D.one (.nils) = true := rfl
theorem y_sol_nils  : D.solid (.nils) = true := rfl
theorem y_cel_nils  : D.cells (.nils) = [.nils] := rfl
theorem y_one_emp  : D.one (.emp) = true := rfl
theorem y_sol_emp  : D.solid (.emp) = true := rfl
theorem y_cel_emp  : D.cells (.emp) = [.emp] := rfl
theorem y_one_lst (l : List D) : D.one (.lst l) = true := rfl
theorem y_sol_lst (l : List D) : D.solid (.lst l) = true := rfl
theorem y_cel_lst (l : List D) : D.cells (.lst l) = [.lst l] := rfl
theorem y_one_ref (sz b v o l : Nat) : D.one (.ref sz b v o l) = true := rfl
theorem y_sol_ref (sz b v o l : Nat) : D.solid (.ref sz b v o l) = true := rfl
theorem y_cel_ref (sz b v o l : Nat) : D.cells (.ref sz b v o l) = [.ref sz b v o l] := rfl
theorem y_one_adr (cs : List D) : D.one (.adr cs) = true := rfl
theorem y_sol_adr (cs : List D) : D.solid (.adr cs) = true := rfl
theorem y_cel_adr (cs : List D) : D.cells (.adr cs) = [.adr cs] := rfl
theorem y_one_ptr (b v o : Nat) : D.one (.ptr b v o) = true := rfl
theorem y_sol_ptr (b v o : Nat) : D.solid (.ptr b v o) = true := rfl
theorem y_cel_ptr (b v o : Nat) : D.cells (.ptr b v o) = [.ptr b v o] := rfl
theorem y_one_nilp  : D.one (.nilp) = true := rfl
theorem y_sol_nilp  : D.solid (.nilp) = true := rfl
theorem y_cel_nilp  : D.cells (.nilp) = [.nilp] := rfl
theorem y_one_fn (f : FuncId) (cs : List D) : D.one (.fn f cs) = true := rfl
theorem y_sol_fn (f : FuncId) (cs : List D) : D.solid (.fn f cs) = true := rfl
theorem y_cel_fn (f : FuncId) (cs : List D) : D.cells (.fn f cs) = [.fn f cs] := rfl
theorem y_one_nilfn  : D.one (.nilfn) = true := rfl
theorem y_sol_nilfn  : D.solid (.nilfn) = true := rfl
theorem y_cel_nilfn  : D.cells (.nilfn) = [.nilfn] := rfl
theorem y_one_map (b v : Nat) : D.one (.map b v) = true := rfl
theorem y_sol_map (b v : Nat) : D.solid (.map b v) = true := rfl
theorem y_cel_map (b v : Nat) : D.cells (.map b v) = [.map b v] := rfl
theorem y_one_nilmap  : D.one (.nilmap) = true := rfl
theorem y_sol_nilmap  : D.solid (.nilmap) = true := rfl
theorem y_cel_nilmap  : D.cells (.nilmap) = [.nilmap] := rfl
theorem y_sol_agg (cs : List D) : D.solid (.agg cs) = true := rfl
theorem y_cel_agg (cs : List D) : D.cells (.agg cs) = cs := rfl
end

end Abs
end Go.Proofs.Ytfojedaccfenfab
