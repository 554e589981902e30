/- The run's equations, packed. -/
import Derived.Test.YtokdeeagghhliaaA25
namespace Go.Proofs.Ytokdeeagghhliaa
namespace Abs
set_option linter.unusedVariables false
theorem y_binD (op : BinOp) (x y : D) (K : D → Prop) : binD op x y K = (match x, y with
  | .int k a, .int k' b => k = k' ∧
    match op with
    | .add => K (.int k (k.wrap (a + b)))
    | .sub => K (.int k (k.wrap (a - b)))
    | .mul => K (.int k (k.wrap (a * b)))
    | .quo => b ≠ 0 ∧ K (.int k (k.wrap (a.tdiv b)))
    | .rem => b ≠ 0 ∧ K (.int k (a.tmod b))
    | .eql => K (.bool (a == b))
    | .neq => K (.bool (a != b))
    | .lss => K (.bool (decide (a < b)))
    | .leq => K (.bool (decide (a ≤ b)))
    | .gtr => K (.bool (decide (a > b)))
    | .geq => K (.bool (decide (a ≥ b)))
    | _ => False
  | .str a, .str b =>
    match op with
    | .eql => K (.bool (a.toList == b.toList))
    | .neq => K (.bool (!(a.toList == b.toList)))
    | _ => False
  | _, _ => False) := by unfold binD; rfl
theorem y_bounds (lo hi : Option D) (n : Nat) (K : Nat → Nat → Prop) : bounds lo hi n K = (match lo, hi with
  | none, none => K 0 n
  | some (.int _ a), none => 0 ≤ a ∧ a ≤ n ∧ K a.toNat n
  | none, some (.int _ b) => 0 ≤ b ∧ b ≤ n ∧ K 0 b.toNat
  | some (.int _ a), some (.int _ b) => 0 ≤ a ∧ a ≤ b ∧ b ≤ n ∧ K a.toNat b.toNat
  | _, _ => False) := by unfold bounds; rfl
theorem y_srcOf (s : St) (sz : Nat) (d : D) (K : Nat → List D → Prop) : srcOf s sz d K = (match d with
  | .nils | .emp => K 0 []
  | .lst l => (∀ x ∈ l, x.cells.length = sz) ∧ K l.length (l.flatMap D.cells)
  | .ref sz' b ver off len => sz' = sz ∧ s.at b ver fun cs => off + len * sz ≤ cs.length ∧ K len ((cs.drop off).take (len * sz))
  | _ => False) := by unfold srcOf; rfl
section
variable {P : Program} {n : Nat} {sl : List D} {h : Heap} {lc : List Blk} {K : St → Prop} {dc : List (List Nat)} {k : Nat} {r : List DOper} {os : List AOper}
theorem y_adq_onT (dst : Option Nat) (op : AOp) (t : Nat) (want : Bool) (ss es : List Nat) (hs : nth sl t = .bool want) : adqS P dc (⟨⟨dst, op, .on t want⟩, ss, es⟩ :: r) k (St.mk n sl h lc) K =
    stepQS P dc k ⟨⟨dst, op, .on t want⟩, ss, es⟩ (St.mk n sl h lc) fun d δ => adqS P dc r (k + 1) (St.fin (St.mk n sl h lc) dst d δ) K := by
  rw [y_adq_on, hs]; cases want <;> rfl
theorem y_adq_onF (dst : Option Nat) (op : AOp) (t : Nat) (want : Bool) (ss es : List Nat) (hs : nth sl t = .bool !want) : adqS P dc (⟨⟨dst, op, .on t want⟩, ss, es⟩ :: r) k (St.mk n sl h lc) K =
    adqS P dc r (k + 1) (St.fin (St.mk n sl h lc) dst (.tup []) []) K := by
  rw [y_adq_on, hs]; cases want <;> rfl
theorem y_adq_onS (dst : Option Nat) (op : AOp) (t : Nat) (want : Bool) (ss es : List Nat) (hs : nth sl t = .tup []) : adqS P dc (⟨⟨dst, op, .on t want⟩, ss, es⟩ :: r) k (St.mk n sl h lc) K =
    adqS P dc r (k + 1) (St.fin (St.mk n sl h lc) dst (.tup []) []) K := by
  rw [y_adq_on, hs]
theorem y_onT (dst : Option Nat) (op : AOp) (t : Nat) (want : Bool) (hs : nth sl t = .bool want) : aopsS P (⟨dst, op, .on t want⟩ :: os) (St.mk n sl h lc) K =
    stepS P ⟨dst, op, .on t want⟩ (St.mk n sl h lc) fun d δ => aopsS P os (St.fin (St.mk n sl h lc) dst d δ) K := by
  rw [y_on, hs]; cases want <;> rfl
theorem y_onF (dst : Option Nat) (op : AOp) (t : Nat) (want : Bool) (hs : nth sl t = .bool !want) : aopsS P (⟨dst, op, .on t want⟩ :: os) (St.mk n sl h lc) K =
    aopsS P os (St.fin (St.mk n sl h lc) dst (.tup []) []) K := by
  rw [y_on, hs]; cases want <;> rfl
end
theorem symPre : type_of% (And.intro (And.intro (And.intro (And.intro (And.intro (And.intro @y_seq @y_skip) (And.intro @y_region (And.intro @y_block @y_exit))) (And.intro (And.intro @y_ret @y_loop) (And.intro @y_draw (And.intro @y_cond @y_condT)))) (And.intro (And.intro (And.intro @y_condF @y_condTT) (And.intro @y_condTF (And.intro @y_condFT @y_condFF))) (And.intro (And.intro @y_nil @y_cons) (And.intro @y_on (And.intro @y_mov @y_pick))))) (And.intro (And.intro (And.intro (And.intro @y_alloc @y_box) (And.intro @y_build (And.intro @y_buildSlice @y_load))) (And.intro (And.intro @y_store @y_bin) (And.intro @y_eqb (And.intro @y_nileq @y_eqs)))) (And.intro (And.intro (And.intro @y_un @y_conv) (And.intro @y_nilck (And.intro @y_mkfn @y_mkslice))) (And.intro (And.intro @y_slice @y_slicez) (And.intro @y_slicea (And.intro @y_fieldAddr @y_field)))))) (And.intro (And.intro (And.intro (And.intro (And.intro @y_idxS @y_idxA) (And.intro @y_idx (And.intro @y_len @y_slen))) (And.intro (And.intro @y_append @y_appendz) (And.intro @y_capz (And.intro @y_minmax @y_extract)))) (And.intro (And.intro (And.intro @y_mkmap @y_lookup) (And.intro @y_mupd (And.intro @y_then @y_then_exit))) (And.intro (And.intro @y_then_ret @y_in) (And.intro @y_in_exit (And.intro @y_in_ret @y_val))))) (And.intro (And.intro (And.intro (And.intro @y_tmp @y_at_loc) (And.intro @y_at_loc0 (And.intro @y_atm_loc @y_retcell))) (And.intro (And.intro @y_new @y_ld_agg) (And.intro @y_ld (And.intro @y_fill0 @y_fill)))) (And.intro (And.intro (And.intro @y_rets_nil @y_rets) (And.intro @y_rettmp (And.intro @y_q_ret @y_q_normal))) (And.intro (And.intro @y_ones0 (And.intro @y_ones @y_ones_ints)) (And.intro @y_binD (And.intro @y_bounds @y_srcOf))))))) :=
  (And.intro (And.intro (And.intro (And.intro (And.intro (And.intro @y_seq @y_skip) (And.intro @y_region (And.intro @y_block @y_exit))) (And.intro (And.intro @y_ret @y_loop) (And.intro @y_draw (And.intro @y_cond @y_condT)))) (And.intro (And.intro (And.intro @y_condF @y_condTT) (And.intro @y_condTF (And.intro @y_condFT @y_condFF))) (And.intro (And.intro @y_nil @y_cons) (And.intro @y_on (And.intro @y_mov @y_pick))))) (And.intro (And.intro (And.intro (And.intro @y_alloc @y_box) (And.intro @y_build (And.intro @y_buildSlice @y_load))) (And.intro (And.intro @y_store @y_bin) (And.intro @y_eqb (And.intro @y_nileq @y_eqs)))) (And.intro (And.intro (And.intro @y_un @y_conv) (And.intro @y_nilck (And.intro @y_mkfn @y_mkslice))) (And.intro (And.intro @y_slice @y_slicez) (And.intro @y_slicea (And.intro @y_fieldAddr @y_field)))))) (And.intro (And.intro (And.intro (And.intro (And.intro @y_idxS @y_idxA) (And.intro @y_idx (And.intro @y_len @y_slen))) (And.intro (And.intro @y_append @y_appendz) (And.intro @y_capz (And.intro @y_minmax @y_extract)))) (And.intro (And.intro (And.intro @y_mkmap @y_lookup) (And.intro @y_mupd (And.intro @y_then @y_then_exit))) (And.intro (And.intro @y_then_ret @y_in) (And.intro @y_in_exit (And.intro @y_in_ret @y_val))))) (And.intro (And.intro (And.intro (And.intro @y_tmp @y_at_loc) (And.intro @y_at_loc0 (And.intro @y_atm_loc @y_retcell))) (And.intro (And.intro @y_new @y_ld_agg) (And.intro @y_ld (And.intro @y_fill0 @y_fill)))) (And.intro (And.intro (And.intro @y_rets_nil @y_rets) (And.intro @y_rettmp (And.intro @y_q_ret @y_q_normal))) (And.intro (And.intro @y_ones0 (And.intro @y_ones @y_ones_ints)) (And.intro @y_binD (And.intro @y_bounds @y_srcOf)))))))
theorem symPost : type_of% (And.intro (And.intro (And.intro (And.intro (And.intro (And.intro @y_nth0 @y_nth) (And.intro @y_fin (And.intro @y_fin_loc @y_fin_locs))) (And.intro (And.intro @y_fin_old @y_key2) (And.intro @y_fin_loc0 (And.intro @y_blk0_opq @y_blk0_ver)))) (And.intro (And.intro (And.intro @y_none_opq @y_cells_opq) (And.intro @y_map_opq (And.intro @y_set_none @y_set_some))) (And.intro (And.intro @y_one_abool (And.intro @y_sol_abool @y_cel_abool)) (And.intro @y_one_bool (And.intro @y_sol_bool @y_cel_bool))))) (And.intro (And.intro (And.intro (And.intro @y_one_int @y_sol_int) (And.intro @y_cel_int (And.intro @y_one_str @y_sol_str))) (And.intro (And.intro @y_cel_str (And.intro @y_one_nils @y_sol_nils)) (And.intro @y_cel_nils (And.intro @y_one_emp @y_sol_emp)))) (And.intro (And.intro (And.intro @y_cel_emp @y_one_lst) (And.intro @y_sol_lst (And.intro @y_cel_lst @y_one_ref))) (And.intro (And.intro @y_sol_ref (And.intro @y_cel_ref @y_one_adr)) (And.intro @y_sol_adr (And.intro @y_cel_adr @y_one_ptr)))))) (And.intro (And.intro (And.intro (And.intro (And.intro @y_sol_ptr @y_cel_ptr) (And.intro @y_one_nilp (And.intro @y_sol_nilp @y_cel_nilp))) (And.intro (And.intro @y_one_fn @y_sol_fn) (And.intro @y_cel_fn (And.intro @y_one_nilfn @y_sol_nilfn)))) (And.intro (And.intro (And.intro @y_cel_nilfn @y_one_map) (And.intro @y_sol_map (And.intro @y_cel_map @y_one_nilmap))) (And.intro (And.intro @y_sol_nilmap (And.intro @y_cel_nilmap @y_sol_agg)) (And.intro @y_cel_agg (And.intro @List.set_cons_zero.{0} @List.set_cons_succ.{0}))))) (And.intro (And.intro (And.intro (And.intro @List.getD_cons_zero.{0} @List.getD_cons_succ.{0}) (And.intro @List.length_cons.{0} (And.intro @List.length_nil.{0} @List.length_set.{0}))) (And.intro (And.intro @List.take_succ_cons.{0} (And.intro @List.take_zero.{0} @List.drop_succ_cons.{0})) (And.intro @List.drop_zero.{0} (And.intro @List.cons_append.{0} @List.nil_append.{0})))) (And.intro (And.intro (And.intro @List.append_nil.{0} @List.map_cons.{0, 0}) (And.intro @List.map_nil.{0, 0} (And.intro @List.replicate_succ.{0} @List.replicate_zero.{0}))) (And.intro (And.intro @List.flatten_cons.{0} (And.intro @List.flatten_nil.{0} @Option.map_some.{0, 0})) (And.intro @Option.map_none.{0, 0} (And.intro @List.flatMap_cons.{0, 0} @List.flatMap_nil.{0, 0}))))))) :=
  (And.intro (And.intro (And.intro (And.intro (And.intro (And.intro @y_nth0 @y_nth) (And.intro @y_fin (And.intro @y_fin_loc @y_fin_locs))) (And.intro (And.intro @y_fin_old @y_key2) (And.intro @y_fin_loc0 (And.intro @y_blk0_opq @y_blk0_ver)))) (And.intro (And.intro (And.intro @y_none_opq @y_cells_opq) (And.intro @y_map_opq (And.intro @y_set_none @y_set_some))) (And.intro (And.intro @y_one_abool (And.intro @y_sol_abool @y_cel_abool)) (And.intro @y_one_bool (And.intro @y_sol_bool @y_cel_bool))))) (And.intro (And.intro (And.intro (And.intro @y_one_int @y_sol_int) (And.intro @y_cel_int (And.intro @y_one_str @y_sol_str))) (And.intro (And.intro @y_cel_str (And.intro @y_one_nils @y_sol_nils)) (And.intro @y_cel_nils (And.intro @y_one_emp @y_sol_emp)))) (And.intro (And.intro (And.intro @y_cel_emp @y_one_lst) (And.intro @y_sol_lst (And.intro @y_cel_lst @y_one_ref))) (And.intro (And.intro @y_sol_ref (And.intro @y_cel_ref @y_one_adr)) (And.intro @y_sol_adr (And.intro @y_cel_adr @y_one_ptr)))))) (And.intro (And.intro (And.intro (And.intro (And.intro @y_sol_ptr @y_cel_ptr) (And.intro @y_one_nilp (And.intro @y_sol_nilp @y_cel_nilp))) (And.intro (And.intro @y_one_fn @y_sol_fn) (And.intro @y_cel_fn (And.intro @y_one_nilfn @y_sol_nilfn)))) (And.intro (And.intro (And.intro @y_cel_nilfn @y_one_map) (And.intro @y_sol_map (And.intro @y_cel_map @y_one_nilmap))) (And.intro (And.intro @y_sol_nilmap (And.intro @y_cel_nilmap @y_sol_agg)) (And.intro @y_cel_agg (And.intro @List.set_cons_zero.{0} @List.set_cons_succ.{0}))))) (And.intro (And.intro (And.intro (And.intro @List.getD_cons_zero.{0} @List.getD_cons_succ.{0}) (And.intro @List.length_cons.{0} (And.intro @List.length_nil.{0} @List.length_set.{0}))) (And.intro (And.intro @List.take_succ_cons.{0} (And.intro @List.take_zero.{0} @List.drop_succ_cons.{0})) (And.intro @List.drop_zero.{0} (And.intro @List.cons_append.{0} @List.nil_append.{0})))) (And.intro (And.intro (And.intro @List.append_nil.{0} @List.map_cons.{0, 0}) (And.intro @List.map_nil.{0, 0} (And.intro @List.replicate_succ.{0} @List.replicate_zero.{0}))) (And.intro (And.intro @List.flatten_cons.{0} (And.intro @List.flatten_nil.{0} @Option.map_some.{0, 0})) (And.intro @Option.map_none.{0, 0} (And.intro @List.flatMap_cons.{0, 0} @List.flatMap_nil.{0, 0})))))))
theorem drawPre : type_of% (And.intro (And.intro (And.intro (And.intro (And.intro @y_adq0 @y_adq) (And.intro @y_stepQ_call @y_q_mov)) (And.intro (And.intro @y_q_pick @y_q_alloc) (And.intro @y_q_box (And.intro @y_q_build @y_q_buildSlice)))) (And.intro (And.intro (And.intro @y_q_load @y_q_store) (And.intro @y_q_bin (And.intro @y_q_eqb @y_q_nileq))) (And.intro (And.intro @y_q_eqs @y_q_un) (And.intro @y_q_conv (And.intro @y_q_nilck @y_q_mkfn))))) (And.intro (And.intro (And.intro (And.intro @y_q_mkslice @y_q_slice) (And.intro @y_q_slicez @y_q_slicea)) (And.intro (And.intro @y_q_fieldAddr @y_q_field) (And.intro @y_q_idxS (And.intro @y_q_idxA @y_q_idx)))) (And.intro (And.intro (And.intro @y_q_len @y_q_slen) (And.intro @y_q_append (And.intro @y_q_appendz @y_q_capz))) (And.intro (And.intro @y_q_minmax @y_q_extract) (And.intro @y_q_mkmap (And.intro @y_adq_onT @y_adq_onF)))))) :=
  (And.intro (And.intro (And.intro (And.intro (And.intro @y_adq0 @y_adq) (And.intro @y_stepQ_call @y_q_mov)) (And.intro (And.intro @y_q_pick @y_q_alloc) (And.intro @y_q_box (And.intro @y_q_build @y_q_buildSlice)))) (And.intro (And.intro (And.intro @y_q_load @y_q_store) (And.intro @y_q_bin (And.intro @y_q_eqb @y_q_nileq))) (And.intro (And.intro @y_q_eqs @y_q_un) (And.intro @y_q_conv (And.intro @y_q_nilck @y_q_mkfn))))) (And.intro (And.intro (And.intro (And.intro @y_q_mkslice @y_q_slice) (And.intro @y_q_slicez @y_q_slicea)) (And.intro (And.intro @y_q_fieldAddr @y_q_field) (And.intro @y_q_idxS (And.intro @y_q_idxA @y_q_idx)))) (And.intro (And.intro (And.intro @y_q_len @y_q_slen) (And.intro @y_q_append (And.intro @y_q_appendz @y_q_capz))) (And.intro (And.intro @y_q_minmax @y_q_extract) (And.intro @y_q_mkmap (And.intro @y_adq_onT @y_adq_onF))))))
theorem drawPost : type_of% (And.intro (And.intro (And.intro @y_hid @y_hide0) (And.intro @y_hide @y_cov0)) (And.intro (And.intro @y_cov1 @List.mem_cons.{0}) (And.intro @List.mem_append.{0} (And.intro @List.not_mem_nil.{0} @List.getD_nil.{0})))) :=
  (And.intro (And.intro (And.intro @y_hid @y_hide0) (And.intro @y_hide @y_cov0)) (And.intro (And.intro @y_cov1 @List.mem_cons.{0}) (And.intro @List.mem_append.{0} (And.intro @List.not_mem_nil.{0} @List.getD_nil.{0}))))
section
variable {P : Program} {n : Nat} {sl : List D} {h : Heap} {lc : List Blk} {dc : List (List Nat)} {k : Nat}
/-- operations beside which nothing is left open, or one block's making -/
theorem y_q0 (dst : Option Nat) (op : AOp) (g : AGuard) (K : D → Chg → Prop) (b : Bool) (hb : isCall op = b) (hc : b = false) : stepQS P dc k ⟨⟨dst, op, g⟩, [], []⟩ (St.mk n sl h lc) K =
    run (St.mk n sl h lc) dst (fun d δ => covB n dc k ⟨⟨dst, op, g⟩, [], []⟩ δ ∧ K d δ) op := by
  rw [y_stepQ dst op g [] [] K (hb.trans hc) (by cases op <;> rfl)]; rfl
theorem y_q1 (dst : Option Nat) (op : AOp) (g : AGuard) (t : Nat) (K : D → Chg → Prop) (b : Bool) (hb : isCall op = b) (hc : b = false) : stepQS P dc k ⟨⟨dst, op, g⟩, [t], []⟩ (St.mk n sl h lc) K =
    run (St.mk n sl h (lc.set t ⟨0, .veil⟩)) dst (fun d δ => covB n dc k ⟨⟨dst, op, g⟩, [t], []⟩ δ ∧ K d δ) op := by
  rw [y_stepQ dst op g [t] [] K (hb.trans hc) (by cases op <;> rfl)]
  have e : hidOf n dc ⟨⟨dst, op, g⟩, [t], []⟩ = [n + t] := rfl
  rw [e, y_hide, y_hide0]
theorem y_q1e (dst : Option Nat) (op : AOp) (g : AGuard) (t j : Nat) (K : D → Chg → Prop) (b : Bool) (hb : isCall op = b) (hc : b = false) (hd : dc.getD j [] = []) : stepQS P dc k ⟨⟨dst, op, g⟩, [t], [j]⟩ (St.mk n sl h lc) K =
    run (St.mk n sl h (lc.set t ⟨0, .veil⟩)) dst (fun d δ => covB n dc k ⟨⟨dst, op, g⟩, [t], [j]⟩ δ ∧ K d δ) op := by
  rw [y_stepQ dst op g [t] [j] K (hb.trans hc) (by cases op <;> rfl)]
  have e : hidOf n dc ⟨⟨dst, op, g⟩, [t], [j]⟩ = [n + t] := by simp only [hidOf, List.map_cons, List.map_nil, List.flatMap_cons, List.flatMap_nil, hd, List.append_nil]
  rw [e, y_hide, y_hide0]
/-- the general step of another kind, whatever is left open beside it -/
theorem y_qn (dst : Option Nat) (op : AOp) (g : AGuard) (ss es : List Nat) (K : D → Chg → Prop) (b : Bool) (hb : isCall op = b) (hc : b = false) : stepQS P dc k ⟨⟨dst, op, g⟩, ss, es⟩ (St.mk n sl h lc) K =
    run (St.hide (St.mk n sl h lc) (hidOf n dc ⟨⟨dst, op, g⟩, ss, es⟩)) dst (fun d δ => covB n dc k ⟨⟨dst, op, g⟩, ss, es⟩ δ ∧ K d δ) op :=
  y_stepQ dst op g ss es K (hb.trans hc) (by cases op <;> rfl)
end
end Abs
end Go.Proofs.Ytokdeeagghhliaa
