/- Numbers made of raw ones; readers, streams; parlmake.Grammar makes a valid grammar. Put together out of ct D2 D7, gt G1 G2 G3. -/
import Derived.Test.YtokdeeagghhliaaN0
namespace Go.Proofs.Ytokdeeagghhliaa
namespace Abs
set_option linter.unusedVariables false
set_option linter.unusedSimpArgs false
set_option maxRecDepth 20000

abbrev iD (l : List Int) : D := .lst (l.map (.int .i64))
theorem wk_i {X : Wx} {k : IntKind} {i : Int} : Wk X (.int k i) (.int k i) := .low _ (.int ..)
theorem ints_cells (l : List Int) : (∀ x ∈ l.map (D.int .i64), x.cells.length = 1) = True := by
  simp only [eq_iff_iff, iff_true]
  intro x hx
  obtain ⟨y, _, rfl⟩ := List.mem_map.1 hx; rfl
theorem ints_flat (l : List Int) : (l.map (D.int .i64)).flatMap D.cells = l.map (D.int .i64) := by
  induction l with
  | nil => rfl
  | cons a l ih => simp only [List.map_cons, List.flatMap_cons, ih]; rfl
theorem ints_one (l : List Int) : (∀ c ∈ l.map (D.int .i64), c.one = true) = True := by
  simp only [eq_iff_iff, iff_true]
  intro x hx
  obtain ⟨y, _, rfl⟩ := List.mem_map.1 hx; rfl
theorem low_iD (n : Nat) (l : List Int) : ∀ c ∈ l.map (D.int .i64), Low n c := by
  intro x hx
  obtain ⟨y, _, rfl⟩ := List.mem_map.1 hx; exact .int ..
def belowI (x n : Int) : Int := if x.tmod n < 0 then x.tmod n + n else x.tmod n

theorem tmod_range (x n : Int) (h : 0 < n) : -n < x.tmod n ∧ x.tmod n < n := by
  rcases Int.lt_or_le x 0 with hx | hx
  · have h1 := Int.tmod_lt_of_pos (-x) h
    have h2 : (0 : Int) ≤ (-x).tmod n := Int.tmod_nonneg n (by omega)
    rw [Int.neg_tmod] at h1 h2
    omega
  · have h1 := Int.tmod_lt_of_pos x h
    have h2 := Int.tmod_nonneg n hx
    omega

theorem below_range (x n : Int) (h : 0 < n) : 0 ≤ belowI x n ∧ belowI x n < n := by
  have := tmod_range x n h
  unfold belowI
  split <;> omega

theorem pure_Below (x m : Int) (h0 : 0 < m) (h1 : m < 2 ^ 62) : Pure prog F_parlmake_Below [.int .i64 x, .int .i64 m] (.int .i64 (belowI x m)) := by
  intro n h
  refine K_parlmake_Below.calls fun hl => ?_
  unfold C_parlmake_Below
  have hne : ¬ m = 0 := by omega
  have hr := tmod_range x m h0
  by_cases h2 : x.tmod m < 0
  · have w1 : IntKind.i64.wrap (x.tmod m + m) = x.tmod m + m := IntWalk.i64_in _ (by omega)
    simp -implicitDefEqProofs only [↓symPre, symPost, y_condP, y_condG, run, lver, minD, intsD, eqAll, tupD, splice, Nat.zero_add, Nat.add_zero, Nat.zero_mul, Nat.mul_one, Nat.one_mul, Nat.reduceAdd, Nat.reduceSub, Nat.reduceMul, Nat.reduceLT, Nat.reduceLeDiff, Nat.reduceEqDiff, true_and, and_true, true_implies, if_true, if_false, ite_true, reduceIte, ne_eq, not_false_eq_true, reduceCtorEq, forall_const, bne_self_eq_false, Bool.true_eq_false, Bool.false_eq_true, false_implies, and_self, implies_true, Int.toNat_zero, beq_self_eq_true, decide_true, decide_false, Bool.not_true, Bool.not_false, ↓y_lookv, y_key1, y_mlook, y_mlookn, y_mres1, y_mres0, ↓y_call, hne, h2, w1]
    exact fin_int hl (by rw [belowI, if_pos h2])
  · simp -implicitDefEqProofs only [↓symPre, symPost, y_condP, y_condG, run, lver, minD, intsD, eqAll, tupD, splice, Nat.zero_add, Nat.add_zero, Nat.zero_mul, Nat.mul_one, Nat.one_mul, Nat.reduceAdd, Nat.reduceSub, Nat.reduceMul, Nat.reduceLT, Nat.reduceLeDiff, Nat.reduceEqDiff, true_and, and_true, true_implies, if_true, if_false, ite_true, reduceIte, ne_eq, not_false_eq_true, reduceCtorEq, forall_const, bne_self_eq_false, Bool.true_eq_false, Bool.false_eq_true, false_implies, and_self, implies_true, Int.toNat_zero, beq_self_eq_true, decide_true, decide_false, Bool.not_true, Bool.not_false, ↓y_lookv, y_key1, y_mlook, y_mlookn, y_mres1, y_mres0, ↓y_call, hne, h2]
    exact fin_int hl (by rw [belowI, if_neg h2])

def nextV (l : List Int) (k : Int) : Int := match l with
  | [] => 0
  | x :: _ => if k < 1 then 0 else belowI x k
def nextL (l : List Int) (k : Int) : List Int := match l with
  | [] => []
  | x :: r => if k < 1 then x :: r else r

theorem nextV_range (l : List Int) (k : Int) : 0 ≤ nextV l k ∧ (nextV l k < k ∨ nextV l k = 0) := by
  unfold nextV
  split
  · simp
  · split
    · simp
    · have := below_range ‹Int› k (by omega)
      omega

/-- the reader lies in its caller's block -/
theorem at_next (l : List Int) (k : Int) (hk : k < 2 ^ 62) (hlen : l.length < 2 ^ 60) {n : Nat} {h : Heap} {b ver : Nat} (hb : b < n) (hh : h b = ⟨ver, .cells [iD l]⟩) :
    ACalls prog F_parlkeep4_reader_next [.ptr b ver 0, .int .i64 k] n h fun d h' x => x = [] ∧ h' = upd h b ⟨ver, .cells [iD (nextL l k)]⟩ ∧ d = .int .i64 (nextV l k) := by
  refine K_parlkeep4_reader_next.calls fun hl => ?_
  unfold C_parlkeep4_reader_next
  cases l with
  | nil =>
    have hz0 : ((0 : Nat) : Int) = 0 := rfl
    simp -implicitDefEqProofs only [↓symPre, symPost, y_condP, y_condG, run, lver, minD, intsD, eqAll, tupD, splice, Nat.zero_add, Nat.add_zero, Nat.zero_mul, Nat.mul_one, Nat.one_mul, Nat.reduceAdd, Nat.reduceSub, Nat.reduceMul, Nat.reduceLT, Nat.reduceLeDiff, Nat.reduceEqDiff, true_and, and_true, true_implies, if_true, if_false, ite_true, reduceIte, ne_eq, not_false_eq_true, reduceCtorEq, forall_const, bne_self_eq_false, Bool.true_eq_false, Bool.false_eq_true, false_implies, and_self, implies_true, Int.toNat_zero, beq_self_eq_true, decide_true, decide_false, Bool.not_true, Bool.not_false, ↓y_lookv, y_key1, y_mlook, y_mlookn, y_mres1, y_mres0, ↓y_call, ↓y_at_old hb, hh, hb, hz0]
    exact fin_low hl (.int ..) ⟨rfl, (upd_self hh).symm, rfl⟩
  | cons x r =>
    have hz : (((r.length + 1 : Nat) : Int) == 0) = false := by simp; omega
    by_cases h1 : k < 1
    · simp -implicitDefEqProofs only [↓symPre, symPost, y_condP, y_condG, run, lver, minD, intsD, eqAll, tupD, splice, Nat.zero_add, Nat.add_zero, Nat.zero_mul, Nat.mul_one, Nat.one_mul, Nat.reduceAdd, Nat.reduceSub, Nat.reduceMul, Nat.reduceLT, Nat.reduceLeDiff, Nat.reduceEqDiff, true_and, and_true, true_implies, if_true, if_false, ite_true, reduceIte, ne_eq, not_false_eq_true, reduceCtorEq, forall_const, bne_self_eq_false, Bool.true_eq_false, Bool.false_eq_true, false_implies, and_self, implies_true, Int.toNat_zero, beq_self_eq_true, decide_true, decide_false, Bool.not_true, Bool.not_false, ↓y_lookv, y_key1, y_mlook, y_mlookn, y_mres1, y_mres0, ↓y_call, ↓y_at_old hb, hh, hb, List.length_map, hz, h1, decide_true]
      refine fin_low hl (.int ..) ⟨rfl, ?_, ?_⟩
      · rw [nextL, if_pos h1]; exact (upd_self hh).symm
      · rw [nextV, if_pos h1]; rfl
    · have h2 : (0 : Int) < ((r.length + 1 : Nat) : Int) := by omega
      have h3 : (1 : Int) ≤ ((r.length + 1 : Nat) : Int) := by omega
      have ht1 : (1 : Int).toNat = 1 := rfl
      have htake : (r.map (D.int .i64)).take (r.length + 1 - 1) = r.map (D.int .i64) := List.take_of_length_le (by simp)
      have hone : (D.lst (r.map (D.int .i64))).one = true := rfl
      simp -implicitDefEqProofs only [↓symPre, symPost, y_condP, y_condG, run, lver, minD, intsD, eqAll, tupD, splice, Nat.zero_add, Nat.add_zero, Nat.zero_mul, Nat.mul_one, Nat.one_mul, Nat.reduceAdd, Nat.reduceSub, Nat.reduceMul, Nat.reduceLT, Nat.reduceLeDiff, Nat.reduceEqDiff, true_and, and_true, true_implies, if_true, if_false, ite_true, reduceIte, ne_eq, not_false_eq_true, reduceCtorEq, forall_const, bne_self_eq_false, Bool.true_eq_false, Bool.false_eq_true, false_implies, and_self, implies_true, Int.toNat_zero, beq_self_eq_true, decide_true, decide_false, Bool.not_true, Bool.not_false, ↓y_lookv, y_key1, y_mlook, y_mlookn, y_mres1, y_mres0, ↓y_call, ↓y_at_old hb, hh, hb, List.length_map, hz, h1, h2, h3, decide_true, decide_false, Int.le_refl, ht1, htake, hone, Int.zero_le_ofNat, Nat.sub_zero, List.forall_mem_cons, List.not_mem_nil, ints_cells]
      refine (pure_Below x k (by omega) hk).call rfl ?_
      simp -implicitDefEqProofs only [↓symPre, symPost, y_condP, y_condG, run, lver, minD, intsD, eqAll, tupD, splice, Nat.zero_add, Nat.add_zero, Nat.zero_mul, Nat.mul_one, Nat.one_mul, Nat.reduceAdd, Nat.reduceSub, Nat.reduceMul, Nat.reduceLT, Nat.reduceLeDiff, Nat.reduceEqDiff, true_and, and_true, true_implies, if_true, if_false, ite_true, reduceIte, ne_eq, not_false_eq_true, reduceCtorEq, forall_const, bne_self_eq_false, Bool.true_eq_false, Bool.false_eq_true, false_implies, and_self, implies_true, Int.toNat_zero, beq_self_eq_true, decide_true, decide_false, Bool.not_true, Bool.not_false, ↓y_lookv, y_key1, y_mlook, y_mlookn, y_mres1, y_mres0, ↓y_call, ↓y_at_old hb, hh, hb]
      refine fin_low (lowH_upd hl (fun c hc => ?_)) (.int ..) ⟨rfl, ?_, ?_⟩
      · simp only [List.mem_cons, List.not_mem_nil, or_false] at hc
        subst hc; exact low_ints n r
      · rw [nextL, if_neg h1]
      · rw [nextV, if_neg h1]; rfl

theorem ACalls.one {P : Program} {f : FuncId} {ds : List D} {r : D} {n : Nat} {sl : List D} {h : Heap} {lc : List Blk} {dst : Option Nat} {K : D → Chg → Prop} {N : Nat} {H : Heap} (t : Nat) (x : Blk)
    (hN : N = n + lc.length) (hH : H = mrg n h lc) (ht : t < lc.length) (hp : ACalls P f ds N H fun d h' x' => x' = [] ∧ h' = upd H (n + t) x ∧ d = r) (hK : K r [(n + t, x)]) :
    ACalls P f ds N H (callK (St.mk n sl h lc) dst K) := by
  subst hN; subst hH
  exact hp.mono fun d h' x' ⟨h1, h2, h3⟩ => .inl ⟨[(n + t, x)], by simp [St.inr]; omega, h1, by rw [h2]; rfl, by rw [h3]; exact hK⟩


theorem ACalls.oneD {P : Program} {f : FuncId} {ds : List D} {r : D} {V : St} {args : List Opd} {dst : Option Nat} {g : AGuard} {t : Nat} {x : Blk} (ha : args.map V.val = ds)
    (hp : ∀ s, Sub s V [] → ACalls P f ds (V.n + V.lc.length) s.hp fun d h' x' => x' = [] ∧ h' = upd s.hp (V.n + t) x ∧ d = r) (ht : t < V.lc.length) :
    stepV P ⟨dst, .call f args, g⟩ V fun d' δ' => d' = r ∧ δ' = [(V.n + t, x)] := by
  intro s hs
  rw [ha]
  exact (hp s hs).mono fun d h' x' ⟨h1, h2, h3⟩ => .inl ⟨[(V.n + t, x)], by simp [St.inr]; rw [← hs.n, ← hs.len]; omega, h1, by rw [h2]; rfl, h3, rfl⟩


/-! ### a stream -/
def snext (l : List Int) (k : Int) : Int := match l with
  | [] => 0
  | x :: _ => belowI x k
theorem snext_range (l : List Int) (k : Int) (h : 0 < k) : 0 ≤ snext l k ∧ snext l k < k := by
  unfold snext
  split
  · omega
  · exact below_range _ k h

theorem at_snext (l : List Int) (k : Int) (h0 : 0 < k) (hk : k < 2 ^ 62) (hlen : l.length < 2 ^ 60) {n : Nat} {h : Heap} {b ver : Nat} (hb : b < n) (hh : h b = ⟨ver, .cells [iD l]⟩) :
    ACalls prog F_parlmake_stream_next [.ptr b ver 0, .int .i64 k] n h fun d h' x => x = [] ∧ h' = upd h b ⟨ver, .cells [iD l.tail]⟩ ∧ d = .int .i64 (snext l k) := by
  refine K_parlmake_stream_next.calls fun hl => ?_
  unfold C_parlmake_stream_next
  cases l with
  | nil =>
    have hz0 : ((0 : Nat) : Int) = 0 := rfl
    simp -implicitDefEqProofs only [↓symPre, symPost, y_condP, y_condG, run, lver, minD, intsD, eqAll, tupD, splice, Nat.zero_add, Nat.add_zero, Nat.zero_mul, Nat.mul_one, Nat.one_mul, Nat.reduceAdd, Nat.reduceSub, Nat.reduceMul, Nat.reduceLT, Nat.reduceLeDiff, Nat.reduceEqDiff, true_and, and_true, true_implies, if_true, if_false, ite_true, reduceIte, ne_eq, not_false_eq_true, reduceCtorEq, forall_const, bne_self_eq_false, Bool.true_eq_false, Bool.false_eq_true, false_implies, and_self, implies_true, Int.toNat_zero, beq_self_eq_true, decide_true, decide_false, Bool.not_true, Bool.not_false, ↓y_lookv, y_key1, y_mlook, y_mlookn, y_mres1, y_mres0, ↓y_call, ↓y_at_old hb, hh, hb, hz0]
    exact fin_low hl (.int ..) ⟨rfl, (upd_self hh).symm, rfl⟩
  | cons x r =>
    have hz : (((r.length + 1 : Nat) : Int) == 0) = false := by simp; omega
    have h2 : (0 : Int) < ((r.length + 1 : Nat) : Int) := by omega
    have h3 : (1 : Int) ≤ ((r.length + 1 : Nat) : Int) := by omega
    have ht1 : (1 : Int).toNat = 1 := rfl
    have htake : (r.map (D.int .i64)).take (r.length + 1 - 1) = r.map (D.int .i64) := List.take_of_length_le (by simp)
    have hone : (D.lst (r.map (D.int .i64))).one = true := rfl
    simp -implicitDefEqProofs only [↓symPre, symPost, y_condP, y_condG, run, lver, minD, intsD, eqAll, tupD, splice, Nat.zero_add, Nat.add_zero, Nat.zero_mul, Nat.mul_one, Nat.one_mul, Nat.reduceAdd, Nat.reduceSub, Nat.reduceMul, Nat.reduceLT, Nat.reduceLeDiff, Nat.reduceEqDiff, true_and, and_true, true_implies, if_true, if_false, ite_true, reduceIte, ne_eq, not_false_eq_true, reduceCtorEq, forall_const, bne_self_eq_false, Bool.true_eq_false, Bool.false_eq_true, false_implies, and_self, implies_true, Int.toNat_zero, beq_self_eq_true, decide_true, decide_false, Bool.not_true, Bool.not_false, ↓y_lookv, y_key1, y_mlook, y_mlookn, y_mres1, y_mres0, ↓y_call, ↓y_at_old hb, hh, hb, List.length_map, hz, h2, h3, decide_true, decide_false, Int.le_refl, ht1, htake, hone, Int.zero_le_ofNat, Nat.sub_zero, List.forall_mem_cons, List.not_mem_nil, ints_cells]
    refine (pure_Below x k h0 hk).call rfl ?_
    simp -implicitDefEqProofs only [↓symPre, symPost, y_condP, y_condG, run, lver, minD, intsD, eqAll, tupD, splice, Nat.zero_add, Nat.add_zero, Nat.zero_mul, Nat.mul_one, Nat.one_mul, Nat.reduceAdd, Nat.reduceSub, Nat.reduceMul, Nat.reduceLT, Nat.reduceLeDiff, Nat.reduceEqDiff, true_and, and_true, true_implies, if_true, if_false, ite_true, reduceIte, ne_eq, not_false_eq_true, reduceCtorEq, forall_const, bne_self_eq_false, Bool.true_eq_false, Bool.false_eq_true, false_implies, and_self, implies_true, Int.toNat_zero, beq_self_eq_true, decide_true, decide_false, Bool.not_true, Bool.not_false, ↓y_lookv, y_key1, y_mlook, y_mlookn, y_mres1, y_mres0, ↓y_call, ↓y_at_old hb, hh, hb]
    refine fin_low (lowH_upd hl (fun c hc => ?_)) (.int ..) ⟨rfl, rfl, rfl⟩
    simp only [List.mem_cons, List.not_mem_nil, or_false] at hc
    subst hc; exact low_ints n r

/-- a stream of this frame's, asked -/
theorem snext_call {l : List Int} {k : Int} {n : Nat} {sl : List D} {h : Heap} {lc : List Blk} {N : Nat} {H : Heap} {dst : Option Nat} {K : D → Chg → Prop} {t ver : Nat} (h0 : 0 < k) (hk : k < 2 ^ 62) (hlen : l.length < 2 ^ 60)
    (hN : N = n + lc.length) (hH : H = mrg n h lc) (ht : lc[t]? = some ⟨ver, .cells [iD l]⟩)
    (hK : ∀ (v : Int) (l' : List Int), 0 ≤ v → v < k → l'.length ≤ l.length → K (.int .i64 v) [(n + t, ⟨ver, .cells [iD l']⟩)]) :
    ACalls prog F_parlmake_stream_next [.ptr (n + t) ver 0, .int .i64 k] N H (callK (St.mk n sl h lc) dst K) := by
  have hlt : t < lc.length := (List.getElem?_eq_some_iff.1 ht).1
  have hr := snext_range l k h0
  refine ACalls.one (r := .int .i64 (snext l k)) t ⟨ver, .cells [iD l.tail]⟩ hN hH hlt ?_ (hK _ _ hr.1 hr.2 (by simp))
  subst hN; subst hH
  exact at_snext l k h0 hk hlen (by omega) (by rw [mrg_loc]; simp [List.getD, ht])

/-- the same of a stream of a caller's -/
theorem snext_callO {l : List Int} {k : Int} {s : St} {N : Nat} {H : Heap} {dst : Option Nat} {K : D → Chg → Prop} {b ver : Nat} (h0 : 0 < k) (hk : k < 2 ^ 62) (hlen : l.length < 2 ^ 60)
    (hN : N = s.n + s.lc.length) (hH : H = s.hp) (hb : b < N) (ht : H b = ⟨ver, .cells [iD l]⟩)
    (hK : ∀ (v : Int) (l' : List Int), 0 ≤ v → v < k → l'.length ≤ l.length → K (.int .i64 v) [(b, ⟨ver, .cells [iD l']⟩)]) :
    ACalls prog F_parlmake_stream_next [.ptr b ver 0, .int .i64 k] N H (callK s dst K) := by
  have hr := snext_range l k h0
  subst hN
  subst hH
  exact (at_snext l k h0 hk hlen hb ht).mono fun d h' x' ⟨h1, h2, h3⟩ => .inl ⟨[(b, ⟨ver, .cells [iD l.tail]⟩)], by simp [St.inr]; omega, h1, by rw [h2]; rfl, by rw [h3]; exact hK _ _ hr.1 hr.2 (by simp)⟩

theorem take_succ_iff {α : Type} {a b : List α} {i : Nat} (h1 : i < a.length) (h2 : i < b.length) : a.take (i + 1) = b.take (i + 1) ↔ a.take i = b.take i ∧ a[i] = b[i] := by
  rw [List.take_succ_eq_append_getElem h1, List.take_succ_eq_append_getElem h2]
  constructor
  · intro h
    have := List.append_inj h (by simp; omega)
    exact ⟨this.1, by simpa using this.2⟩
  · rintro ⟨h, k⟩; rw [h, k]

theorem sy_eq (a b : Sy) : ((a.t == b.t) && ((a.n == b.n) && true)) = decide (a = b) := by
  obtain ⟨at', an⟩ := a
  obtain ⟨bt, bn⟩ := b
  by_cases h1 : at' = bt <;> by_cases h2 : an = bn <;> simp [h1, h2]

set_option maxHeartbeats 1000000 in
theorem pure_has (l : List Ru) (r : Ru) (hl62 : l.length < 2 ^ 60) (hr62 : r.right.length < 2 ^ 60) (hx62 : ∀ x ∈ l, x.right.length < 2 ^ 60) : Pure prog F_parlmake_has [.lst (l.map ruleD), .agg [.int .i64 r.left, .lst (r.right.map symD)]] (.bool (decide (r ∈ l))) := by
  intro n h
  refine K_parlmake_has.calls fun hl => ?_
  unfold C_parlmake_has
  obtain ⟨rl, rr⟩ := r
  simp only at hr62 ⊢
  simp -implicitDefEqProofs only [↓symPre, symPost, y_condP, y_condG, run, lver, minD, intsD, eqAll, tupD, splice, Nat.zero_add, Nat.add_zero, Nat.zero_mul, Nat.mul_one, Nat.one_mul, Nat.reduceAdd, Nat.reduceSub, Nat.reduceMul, Nat.reduceLT, Nat.reduceLeDiff, Nat.reduceEqDiff, true_and, and_true, true_implies, if_true, if_false, ite_true, reduceIte, ne_eq, not_false_eq_true, reduceCtorEq, forall_const, bne_self_eq_false, Bool.true_eq_false, Bool.false_eq_true, false_implies, and_self, implies_true, Int.toNat_zero, beq_self_eq_true, decide_true, decide_false, Bool.not_true, Bool.not_false, ↓y_lookv, y_key1, y_mlook, y_mlookn, y_mres1, y_mres0, ↓y_call]
  refine aloop (fun i : Nat => St.mk n ([.lst (l.map ruleD), .top, .top, .ptr (n + 3) 1 0, .bool false, .top, .top, .top, .top, .lst (l.map ruleD), .int .i64 l.length, .int .i64 i] ++ List.replicate 40 .top) h
      (List.replicate 3 blk0 ++ [⟨1, .cells [.int .i64 rl, .lst (rr.map symD)]⟩] ++ List.replicate 48 blk0)) (fun i => i ≤ l.length ∧ ∀ x ∈ l.take i, x ≠ ⟨rl, rr⟩) (fun i => l.length - i) 0 ⟨Nat.zero_le _, by simp⟩ ?_ ?_
  · refine le_to (List.replicate 3 .hole ++ [.old 3] ++ List.replicate 48 .hole) hl rfl ?_ ?_ <;> (try simp only [List.length_map]) <;> ((try simp only [y_blk_end, y_blk_hole, y_blk_nil, y_blk_old, y_wkl_end, y_wkl_top, List.replicate, List.cons_append, List.nil_append, and_true, true_and]) <;> (repeat' (first | apply And.intro | apply y_wkl | refine Exists.intro _ (And.intro rfl ?_))) <;> (try first | exact trivial | exact Wk.top _ | exact wk_int rfl | exact wk_bool rfl | exact wk_ptr rfl rfl rfl rfl | exact wk_ref rfl rfl rfl rfl rfl | exact wk_nil rfl rfl rfl | exact wk_ref rfl rfl rfl rfl (by simp) | exact wk_ref rfl rfl rfl rfl (by simp; omega) | exact wk_old (by assumption) (by simp) | exact wk_eq rfl (by first | exact Bd.int _ _ | exact Bd.bool _ | exact Bd.abool | exact Bd.nils | exact Bd.emp | exact Bd.nilp | exact Bd.nilfn | assumption | exact low_trees _ _ | exact low_treeD _ _ | exact low_ints _ _) | exact Nat.le_refl _ | exact wk_int (by simp) | exact wk_int (by omega) | exact Nat.succ_le_succ (Nat.zero_le _) | exact Nat.le_add_left _ _ | omega))
    all_goals first | exact wk_eq rfl (low_rules _ _) | exact wk_eq rfl (low_syms _ _)
  · rintro i ⟨hi, hne⟩
    by_cases hlt : i < l.length
    · have f1 : (i : Int) < (l.length : Int) := by omega
      have f0 : (0 : Int) ≤ (i : Int) := by omega
      have w1 : IntKind.i64.wrap ((i : Int) + 1) = ((i + 1 : Nat) : Int) := by rw [IntWalk.i64_in _ (by omega)]; omega
      have e0 := nth_mapF ruleD l i hlt
      have hx := hx62 l[i] (List.getElem_mem hlt)
      have htk := List.take_succ_eq_append_getElem hlt
      generalize hxx : l[i] = x at *
      obtain ⟨xl, xr⟩ := x
      change nth (l.map ruleD) i = .agg [.int .i64 xl, .lst (xr.map symD)] at e0
      simp only at e0 hx
      -- the next round
      have next : (⟨xl, xr⟩ : Ru) ≠ ⟨rl, rr⟩ → ∀ x ∈ l.take (i + 1), x ≠ ⟨rl, rr⟩ := fun hn x hx => by
        rw [htk] at hx
        rcases List.mem_append.1 hx with hx | hx
        · exact hne x hx
        · simp only [List.mem_cons, List.not_mem_nil, or_false] at hx; subst hx; exact hn
      by_cases c1 : xl = rl
      · have b1 : (xl != rl) = false := by simp [c1]
        by_cases c2 : xr.length = rr.length
        · have b2 : ((xr.length : Int) != (rr.length : Int)) = false := by simp [c2]
          simp -implicitDefEqProofs only [↓symPre, symPost, y_condP, y_condG, run, lver, minD, intsD, eqAll, tupD, splice, Nat.zero_add, Nat.add_zero, Nat.zero_mul, Nat.mul_one, Nat.one_mul, Nat.reduceAdd, Nat.reduceSub, Nat.reduceMul, Nat.reduceLT, Nat.reduceLeDiff, Nat.reduceEqDiff, true_and, and_true, true_implies, if_true, if_false, ite_true, reduceIte, ne_eq, not_false_eq_true, reduceCtorEq, forall_const, bne_self_eq_false, Bool.true_eq_false, Bool.false_eq_true, false_implies, and_self, implies_true, Int.toNat_zero, beq_self_eq_true, decide_true, decide_false, Bool.not_true, Bool.not_false, ↓y_lookv, y_key1, y_mlook, y_mlookn, y_mres1, y_mres0, ↓y_call, List.length_map, f1, f0, decide_true, Int.toNat_natCast, e0, b1, b2]
          refine aloop (fun j : Nat => St.mk n ([.lst (l.map ruleD), .top, .top, .ptr (n + 3) 1 0, .bool false, .top, .ptr (n + 6) 1 0, .bool (decide (xr.take j = rr.take j)), .top, .lst (l.map ruleD), .int .i64 l.length, .int .i64 i] ++ List.replicate 19 .top ++ [.int .i64 xr.length, .int .i64 j] ++ List.replicate 19 .top) h
              (List.replicate 3 blk0 ++ [⟨1, .cells [.int .i64 rl, .lst (rr.map symD)]⟩, blk0, blk0, ⟨1, .cells [.int .i64 xl, .lst (xr.map symD)]⟩] ++ List.replicate 45 blk0)) (fun j => j ≤ xr.length) (fun j => xr.length - j) 0 (Nat.zero_le _) ?_ ?_
          · refine le_to (List.replicate 3 .hole ++ [.old 3, .hole, .hole, .old 6] ++ List.replicate 45 .hole) hl rfl ?_ ?_ <;> (try simp only [List.length_map]) <;> ((try simp only [y_blk_end, y_blk_hole, y_blk_nil, y_blk_old, y_wkl_end, y_wkl_top, List.replicate, List.cons_append, List.nil_append, and_true, true_and]) <;> (repeat' (first | apply And.intro | apply y_wkl | refine Exists.intro _ (And.intro rfl ?_))) <;> (try first | exact trivial | exact Wk.top _ | exact wk_int rfl | exact wk_bool rfl | exact wk_ptr rfl rfl rfl rfl | exact wk_ref rfl rfl rfl rfl rfl | exact wk_nil rfl rfl rfl | exact wk_ref rfl rfl rfl rfl (by simp) | exact wk_ref rfl rfl rfl rfl (by simp; omega) | exact wk_old (by assumption) (by simp) | exact wk_eq rfl (by first | exact Bd.int _ _ | exact Bd.bool _ | exact Bd.abool | exact Bd.nils | exact Bd.emp | exact Bd.nilp | exact Bd.nilfn | assumption | exact low_trees _ _ | exact low_treeD _ _ | exact low_ints _ _) | exact Nat.le_refl _ | exact wk_int (by simp) | exact wk_int (by omega) | exact Nat.succ_le_succ (Nat.zero_le _) | exact Nat.le_add_left _ _ | omega))
            all_goals first | exact wk_eq rfl (low_rules _ _) | exact wk_eq rfl (low_syms _ _) | exact wk_bool (by simp)
          · intro j hj
            by_cases hjl : j < xr.length
            · have g1 : (j : Int) < (xr.length : Int) := by omega
              have g0 : (0 : Int) ≤ (j : Int) := by omega
              have g2 : (j : Int) < (rr.length : Int) := by omega
              have w2 : IntKind.i64.wrap ((j : Int) + 1) = ((j + 1 : Nat) : Int) := by rw [IntWalk.i64_in _ (by omega)]; omega
              have e1 : nth (xr.map symD) j = .agg [.bool xr[j].t, .int .i64 xr[j].n] := nth_mapF symD xr j hjl
              have e2 : nth (rr.map symD) j = .agg [.bool (rr[j]'(by omega)).t, .int .i64 (rr[j]'(by omega)).n] := nth_mapF symD rr j (by omega)
              have hst := take_succ_iff (a := xr) (b := rr) hjl (by omega)
              have hq := sy_eq xr[j] (rr[j]'(by omega))
              simp -implicitDefEqProofs only [↓symPre, symPost, y_condP, y_condG, run, lver, minD, intsD, eqAll, tupD, splice, Nat.zero_add, Nat.add_zero, Nat.zero_mul, Nat.mul_one, Nat.one_mul, Nat.reduceAdd, Nat.reduceSub, Nat.reduceMul, Nat.reduceLT, Nat.reduceLeDiff, Nat.reduceEqDiff, true_and, and_true, true_implies, if_true, if_false, ite_true, reduceIte, ne_eq, not_false_eq_true, reduceCtorEq, forall_const, bne_self_eq_false, Bool.true_eq_false, Bool.false_eq_true, false_implies, and_self, implies_true, Int.toNat_zero, beq_self_eq_true, decide_true, decide_false, Bool.not_true, Bool.not_false, ↓y_lookv, y_key1, y_mlook, y_mlookn, y_mres1, y_mres0, ↓y_call, List.length_map, g1, g0, decide_true, Int.toNat_natCast]
              refine adrawq hmix [] ?_
              by_cases c3 : xr.take j = rr.take j
              · have d3 : decide (xr.take j = rr.take j) = true := by simp [c3]
                rw [d3]
                simp (maxSteps := 400000) -implicitDefEqProofs only [↓symPre, symPost, y_condP, y_condG, run, lver, minD, intsD, eqAll, tupD, splice, Nat.zero_add, Nat.add_zero, Nat.zero_mul, Nat.mul_one, Nat.one_mul, Nat.reduceAdd, Nat.reduceSub, Nat.reduceMul, Nat.reduceLT, Nat.reduceLeDiff, Nat.reduceEqDiff, true_and, and_true, true_implies, if_true, if_false, ite_true, reduceIte, ne_eq, not_false_eq_true, reduceCtorEq, forall_const, bne_self_eq_false, Bool.true_eq_false, Bool.false_eq_true, false_implies, and_self, implies_true, Int.toNat_zero, beq_self_eq_true, decide_true, decide_false, Bool.not_true, Bool.not_false, ↓y_lookv, y_key1, y_mlook, y_mlookn, y_mres1, y_mres0, ↓y_call, ↓y_adq0, ↓y_adq, ↓y_stepQ_call, ↓y_adq_onT, ↓y_adq_onF, ↓y_adq_onS, drawPost, isCall, isNew, isEff, Option.toList, or_false, false_or, cond_true, cond_false, not_true_eq_false, or_true, true_or, Nat.add_left_cancel_iff, Bool.false_eq_true, ↓y_q0, ↓y_q1, ↓y_q1e, y_qn, isMap, List.length_map, g1, g0, g2, decide_true, Int.toNat_natCast, e1, e2, hq, w2, Bool.bne_false]
                refine ⟨j + 1, by omega, by omega, ?_⟩
                refine le_to (List.replicate 3 .hole ++ [.old 3, .hole, .hole, .old 6] ++ List.replicate 45 .hole) hl rfl ?_ ?_ <;> ((try simp only [y_blk_end, y_blk_hole, y_blk_nil, y_blk_old, y_wkl_end, y_wkl_top, List.replicate, List.cons_append, List.nil_append, and_true, true_and]) <;> (repeat' (first | apply And.intro | apply y_wkl | refine Exists.intro _ (And.intro rfl ?_))) <;> (try first | exact trivial | exact Wk.top _ | exact wk_int rfl | exact wk_bool rfl | exact wk_ptr rfl rfl rfl rfl | exact wk_ref rfl rfl rfl rfl rfl | exact wk_nil rfl rfl rfl | exact wk_ref rfl rfl rfl rfl (by simp) | exact wk_ref rfl rfl rfl rfl (by simp; omega) | exact wk_old (by assumption) (by simp) | exact wk_eq rfl (by first | exact Bd.int _ _ | exact Bd.bool _ | exact Bd.abool | exact Bd.nils | exact Bd.emp | exact Bd.nilp | exact Bd.nilfn | assumption | exact low_trees _ _ | exact low_treeD _ _ | exact low_ints _ _) | exact Nat.le_refl _ | exact wk_int (by simp) | exact wk_int (by omega) | exact Nat.succ_le_succ (Nat.zero_le _) | exact Nat.le_add_left _ _ | omega))
                all_goals first | exact wk_eq rfl (low_rules _ _) | exact wk_eq rfl (low_syms _ _) | skip
                exact wk_bool (by rw [decide_eq_decide]; simp [hst, c3])
              · have d3 : decide (xr.take j = rr.take j) = false := by simp [c3]
                rw [d3]
                simp (maxSteps := 400000) -implicitDefEqProofs only [↓symPre, symPost, y_condP, y_condG, run, lver, minD, intsD, eqAll, tupD, splice, Nat.zero_add, Nat.add_zero, Nat.zero_mul, Nat.mul_one, Nat.one_mul, Nat.reduceAdd, Nat.reduceSub, Nat.reduceMul, Nat.reduceLT, Nat.reduceLeDiff, Nat.reduceEqDiff, true_and, and_true, true_implies, if_true, if_false, ite_true, reduceIte, ne_eq, not_false_eq_true, reduceCtorEq, forall_const, bne_self_eq_false, Bool.true_eq_false, Bool.false_eq_true, false_implies, and_self, implies_true, Int.toNat_zero, beq_self_eq_true, decide_true, decide_false, Bool.not_true, Bool.not_false, ↓y_lookv, y_key1, y_mlook, y_mlookn, y_mres1, y_mres0, ↓y_call, ↓y_adq0, ↓y_adq, ↓y_stepQ_call, ↓y_adq_onT, ↓y_adq_onF, ↓y_adq_onS, drawPost, isCall, isNew, isEff, Option.toList, or_false, false_or, cond_true, cond_false, not_true_eq_false, or_true, true_or, Nat.add_left_cancel_iff, Bool.false_eq_true, ↓y_q0, ↓y_q1, ↓y_q1e, y_qn, isMap, List.length_map, g1, g0, g2, decide_true, Int.toNat_natCast, e1, e2, hq, w2, Bool.bne_false]
                refine ⟨j + 1, by omega, by omega, ?_⟩
                refine le_to (List.replicate 3 .hole ++ [.old 3, .hole, .hole, .old 6] ++ List.replicate 45 .hole) hl rfl ?_ ?_ <;> ((try simp only [y_blk_end, y_blk_hole, y_blk_nil, y_blk_old, y_wkl_end, y_wkl_top, List.replicate, List.cons_append, List.nil_append, and_true, true_and]) <;> (repeat' (first | apply And.intro | apply y_wkl | refine Exists.intro _ (And.intro rfl ?_))) <;> (try first | exact trivial | exact Wk.top _ | exact wk_int rfl | exact wk_bool rfl | exact wk_ptr rfl rfl rfl rfl | exact wk_ref rfl rfl rfl rfl rfl | exact wk_nil rfl rfl rfl | exact wk_ref rfl rfl rfl rfl (by simp) | exact wk_ref rfl rfl rfl rfl (by simp; omega) | exact wk_old (by assumption) (by simp) | exact wk_eq rfl (by first | exact Bd.int _ _ | exact Bd.bool _ | exact Bd.abool | exact Bd.nils | exact Bd.emp | exact Bd.nilp | exact Bd.nilfn | assumption | exact low_trees _ _ | exact low_treeD _ _ | exact low_ints _ _) | exact Nat.le_refl _ | exact wk_int (by simp) | exact wk_int (by omega) | exact Nat.succ_le_succ (Nat.zero_le _) | exact Nat.le_add_left _ _ | omega))
                all_goals first | exact wk_eq rfl (low_rules _ _) | exact wk_eq rfl (low_syms _ _) | skip
                exact wk_bool (by symm; simp [hst, c3])
            · have g1 : ¬ (j : Int) < (xr.length : Int) := by omega
              have hjx : j = xr.length := by omega
              subst hjx
              have t1 : xr.take xr.length = xr := List.take_length
              have t2 : rr.take xr.length = rr := by rw [c2, List.take_length]
              simp -implicitDefEqProofs only [↓symPre, symPost, y_condP, y_condG, run, lver, minD, intsD, eqAll, tupD, splice, Nat.zero_add, Nat.add_zero, Nat.zero_mul, Nat.mul_one, Nat.one_mul, Nat.reduceAdd, Nat.reduceSub, Nat.reduceMul, Nat.reduceLT, Nat.reduceLeDiff, Nat.reduceEqDiff, true_and, and_true, true_implies, if_true, if_false, ite_true, reduceIte, ne_eq, not_false_eq_true, reduceCtorEq, forall_const, bne_self_eq_false, Bool.true_eq_false, Bool.false_eq_true, false_implies, and_self, implies_true, Int.toNat_zero, beq_self_eq_true, decide_true, decide_false, Bool.not_true, Bool.not_false, ↓y_lookv, y_key1, y_mlook, y_mlookn, y_mres1, y_mres0, ↓y_call, g1, decide_false, t1, t2]
              by_cases c3 : xr = rr
              · have d3 : decide (xr = rr) = true := by simp [c3]
                simp -implicitDefEqProofs only [↓symPre, symPost, y_condP, y_condG, run, lver, minD, intsD, eqAll, tupD, splice, Nat.zero_add, Nat.add_zero, Nat.zero_mul, Nat.mul_one, Nat.one_mul, Nat.reduceAdd, Nat.reduceSub, Nat.reduceMul, Nat.reduceLT, Nat.reduceLeDiff, Nat.reduceEqDiff, true_and, and_true, true_implies, if_true, if_false, ite_true, reduceIte, ne_eq, not_false_eq_true, reduceCtorEq, forall_const, bne_self_eq_false, Bool.true_eq_false, Bool.false_eq_true, false_implies, and_self, implies_true, Int.toNat_zero, beq_self_eq_true, decide_true, decide_false, Bool.not_true, Bool.not_false, ↓y_lookv, y_key1, y_mlook, y_mlookn, y_mres1, y_mres0, ↓y_call, d3]
                refine fin_bool hl ?_
                symm
                rw [decide_eq_true_eq, ← c1, ← c3, ← hxx]
                exact List.getElem_mem hlt
              · have d3 : decide (xr = rr) = false := by simp [c3]
                simp -implicitDefEqProofs only [↓symPre, symPost, y_condP, y_condG, run, lver, minD, intsD, eqAll, tupD, splice, Nat.zero_add, Nat.add_zero, Nat.zero_mul, Nat.mul_one, Nat.one_mul, Nat.reduceAdd, Nat.reduceSub, Nat.reduceMul, Nat.reduceLT, Nat.reduceLeDiff, Nat.reduceEqDiff, true_and, and_true, true_implies, if_true, if_false, ite_true, reduceIte, ne_eq, not_false_eq_true, reduceCtorEq, forall_const, bne_self_eq_false, Bool.true_eq_false, Bool.false_eq_true, false_implies, and_self, implies_true, Int.toNat_zero, beq_self_eq_true, decide_true, decide_false, Bool.not_true, Bool.not_false, ↓y_lookv, y_key1, y_mlook, y_mlookn, y_mres1, y_mres0, ↓y_call, d3, w1]
                refine ⟨i + 1, ⟨by omega, next (fun e => c3 (by injection e))⟩, by omega, ?_⟩
                refine le_to (List.replicate 3 .hole ++ [.old 3] ++ List.replicate 48 .hole) hl rfl ?_ ?_ <;> ((try simp only [y_blk_end, y_blk_hole, y_blk_nil, y_blk_old, y_wkl_end, y_wkl_top, List.replicate, List.cons_append, List.nil_append, and_true, true_and]) <;> (repeat' (first | apply And.intro | apply y_wkl | refine Exists.intro _ (And.intro rfl ?_))) <;> (try first | exact trivial | exact Wk.top _ | exact wk_int rfl | exact wk_bool rfl | exact wk_ptr rfl rfl rfl rfl | exact wk_ref rfl rfl rfl rfl rfl | exact wk_nil rfl rfl rfl | exact wk_ref rfl rfl rfl rfl (by simp) | exact wk_ref rfl rfl rfl rfl (by simp; omega) | exact wk_old (by assumption) (by simp) | exact wk_eq rfl (by first | exact Bd.int _ _ | exact Bd.bool _ | exact Bd.abool | exact Bd.nils | exact Bd.emp | exact Bd.nilp | exact Bd.nilfn | assumption | exact low_trees _ _ | exact low_treeD _ _ | exact low_ints _ _) | exact Nat.le_refl _ | exact wk_int (by simp) | exact wk_int (by omega) | exact Nat.succ_le_succ (Nat.zero_le _) | exact Nat.le_add_left _ _ | omega))
                all_goals first | exact wk_eq rfl (low_rules _ _) | exact wk_eq rfl (low_syms _ _)
        · have b2 : ((xr.length : Int) != (rr.length : Int)) = true := by simp; omega
          simp -implicitDefEqProofs only [↓symPre, symPost, y_condP, y_condG, run, lver, minD, intsD, eqAll, tupD, splice, Nat.zero_add, Nat.add_zero, Nat.zero_mul, Nat.mul_one, Nat.one_mul, Nat.reduceAdd, Nat.reduceSub, Nat.reduceMul, Nat.reduceLT, Nat.reduceLeDiff, Nat.reduceEqDiff, true_and, and_true, true_implies, if_true, if_false, ite_true, reduceIte, ne_eq, not_false_eq_true, reduceCtorEq, forall_const, bne_self_eq_false, Bool.true_eq_false, Bool.false_eq_true, false_implies, and_self, implies_true, Int.toNat_zero, beq_self_eq_true, decide_true, decide_false, Bool.not_true, Bool.not_false, ↓y_lookv, y_key1, y_mlook, y_mlookn, y_mres1, y_mres0, ↓y_call, List.length_map, f1, f0, decide_true, Int.toNat_natCast, e0, b1, b2, w1]
          refine ⟨i + 1, ⟨by omega, next (fun e => c2 (by injection e with e1 e2; rw [e2]))⟩, by omega, ?_⟩
          refine le_to (List.replicate 3 .hole ++ [.old 3] ++ List.replicate 48 .hole) hl rfl ?_ ?_ <;> ((try simp only [y_blk_end, y_blk_hole, y_blk_nil, y_blk_old, y_wkl_end, y_wkl_top, List.replicate, List.cons_append, List.nil_append, and_true, true_and]) <;> (repeat' (first | apply And.intro | apply y_wkl | refine Exists.intro _ (And.intro rfl ?_))) <;> (try first | exact trivial | exact Wk.top _ | exact wk_int rfl | exact wk_bool rfl | exact wk_ptr rfl rfl rfl rfl | exact wk_ref rfl rfl rfl rfl rfl | exact wk_nil rfl rfl rfl | exact wk_ref rfl rfl rfl rfl (by simp) | exact wk_ref rfl rfl rfl rfl (by simp; omega) | exact wk_old (by assumption) (by simp) | exact wk_eq rfl (by first | exact Bd.int _ _ | exact Bd.bool _ | exact Bd.abool | exact Bd.nils | exact Bd.emp | exact Bd.nilp | exact Bd.nilfn | assumption | exact low_trees _ _ | exact low_treeD _ _ | exact low_ints _ _) | exact Nat.le_refl _ | exact wk_int (by simp) | exact wk_int (by omega) | exact Nat.succ_le_succ (Nat.zero_le _) | exact Nat.le_add_left _ _ | omega))
          all_goals first | exact wk_eq rfl (low_rules _ _) | exact wk_eq rfl (low_syms _ _)
      · have b1 : (xl != rl) = true := by simp [c1]
        simp -implicitDefEqProofs only [↓symPre, symPost, y_condP, y_condG, run, lver, minD, intsD, eqAll, tupD, splice, Nat.zero_add, Nat.add_zero, Nat.zero_mul, Nat.mul_one, Nat.one_mul, Nat.reduceAdd, Nat.reduceSub, Nat.reduceMul, Nat.reduceLT, Nat.reduceLeDiff, Nat.reduceEqDiff, true_and, and_true, true_implies, if_true, if_false, ite_true, reduceIte, ne_eq, not_false_eq_true, reduceCtorEq, forall_const, bne_self_eq_false, Bool.true_eq_false, Bool.false_eq_true, false_implies, and_self, implies_true, Int.toNat_zero, beq_self_eq_true, decide_true, decide_false, Bool.not_true, Bool.not_false, ↓y_lookv, y_key1, y_mlook, y_mlookn, y_mres1, y_mres0, ↓y_call, List.length_map, f1, f0, decide_true, Int.toNat_natCast, e0, b1, w1]
        refine ⟨i + 1, ⟨by omega, next (fun e => c1 (by injection e))⟩, by omega, ?_⟩
        refine le_to (List.replicate 3 .hole ++ [.old 3] ++ List.replicate 48 .hole) hl rfl ?_ ?_ <;> ((try simp only [y_blk_end, y_blk_hole, y_blk_nil, y_blk_old, y_wkl_end, y_wkl_top, List.replicate, List.cons_append, List.nil_append, and_true, true_and]) <;> (repeat' (first | apply And.intro | apply y_wkl | refine Exists.intro _ (And.intro rfl ?_))) <;> (try first | exact trivial | exact Wk.top _ | exact wk_int rfl | exact wk_bool rfl | exact wk_ptr rfl rfl rfl rfl | exact wk_ref rfl rfl rfl rfl rfl | exact wk_nil rfl rfl rfl | exact wk_ref rfl rfl rfl rfl (by simp) | exact wk_ref rfl rfl rfl rfl (by simp; omega) | exact wk_old (by assumption) (by simp) | exact wk_eq rfl (by first | exact Bd.int _ _ | exact Bd.bool _ | exact Bd.abool | exact Bd.nils | exact Bd.emp | exact Bd.nilp | exact Bd.nilfn | assumption | exact low_trees _ _ | exact low_treeD _ _ | exact low_ints _ _) | exact Nat.le_refl _ | exact wk_int (by simp) | exact wk_int (by omega) | exact Nat.succ_le_succ (Nat.zero_le _) | exact Nat.le_add_left _ _ | omega))
        all_goals first | exact wk_eq rfl (low_rules _ _) | exact wk_eq rfl (low_syms _ _)
    · have f1 : ¬ (i : Int) < (l.length : Int) := by omega
      have hil : i = l.length := by omega
      subst hil
      simp -implicitDefEqProofs only [↓symPre, symPost, y_condP, y_condG, run, lver, minD, intsD, eqAll, tupD, splice, Nat.zero_add, Nat.add_zero, Nat.zero_mul, Nat.mul_one, Nat.one_mul, Nat.reduceAdd, Nat.reduceSub, Nat.reduceMul, Nat.reduceLT, Nat.reduceLeDiff, Nat.reduceEqDiff, true_and, and_true, true_implies, if_true, if_false, ite_true, reduceIte, ne_eq, not_false_eq_true, reduceCtorEq, forall_const, bne_self_eq_false, Bool.true_eq_false, Bool.false_eq_true, false_implies, and_self, implies_true, Int.toNat_zero, beq_self_eq_true, decide_true, decide_false, Bool.not_true, Bool.not_false, ↓y_lookv, y_key1, y_mlook, y_mlookn, y_mres1, y_mres0, ↓y_call, List.length_map, f1, decide_false]
      refine fin_bool hl ?_
      symm
      rw [decide_eq_false_iff_not]
      intro hm
      rw [List.take_length] at hne
      exact hne _ hm rfl

theorem sym_one_cells (b : Bool) (k : Int) (L : List Sy) : cellsF symD L ++ [.bool b, .int .i64 k] = cellsF symD (L ++ [⟨b, k⟩]) := by rw [cellsF_app, cellsF_one]; rfl
theorem rule_one_cells (k : Int) (s : List Sy) (L : List Ru) : cellsF ruleD L ++ [.int .i64 k, .lst (s.map symD)] = cellsF ruleD (L ++ [⟨k, s⟩]) := by rw [cellsF_app, cellsF_one]; rfl

theorem wk_agg4 {X : Wx} {a b c d a' b' c' d' : D} (h1 : Wk X a a') (h2 : Wk X b b') (h3 : Wk X c c') (h4 : Wk X d d') : Wk X (.agg [a, b, c, d]) (.agg [a', b', c', d']) :=
  .agg _ _ rfl fun i x x' hc hc' => by
    rcases i with _ | _ | _ | _ | i
    · simp at hc hc'; subst hc; subst hc'; exact h1
    · simp at hc hc'; subst hc; subst hc'; exact h2
    · simp at hc hc'; subst hc; subst hc'; exact h3
    · simp at hc hc'; subst hc; subst hc'; exact h4
    · simp at hc

set_option maxHeartbeats 4000000 in
theorem at_Grammar (l : List Int) (hlen : l.length < 2 ^ 60) (n : Nat) (h : Heap) : ACalls prog F_parlmake_Grammar [iD l] n h fun d h' x => h' = h ∧ x = [] ∧ ∃ g : Gr, okGr g ∧ d = gramD g := by
  refine K_parlmake_Grammar.calls fun hl => ?_
  unfold C_parlmake_Grammar
  simp -implicitDefEqProofs only [↓symPre, symPost, y_condP, y_condG, run, lver, minD, intsD, eqAll, tupD, splice, Nat.zero_add, Nat.add_zero, Nat.zero_mul, Nat.mul_one, Nat.one_mul, Nat.reduceAdd, Nat.reduceSub, Nat.reduceMul, Nat.reduceLT, Nat.reduceLeDiff, Nat.reduceEqDiff, true_and, and_true, true_implies, if_true, if_false, ite_true, reduceIte, ne_eq, not_false_eq_true, reduceCtorEq, forall_const, bne_self_eq_false, Bool.true_eq_false, Bool.false_eq_true, false_implies, and_self, implies_true, Int.toNat_zero, beq_self_eq_true, decide_true, decide_false, Bool.not_true, Bool.not_false, ↓y_lookv, y_key1, y_mlook, y_mlookn, y_mres1, y_mres0, ↓y_call]
  refine snext_call (l := l) (t := 8) (by omega) (by omega) hlen rfl rfl rfl fun T l1 hT0 hT1 hl1 => ?_
  have wT : IntKind.i64.wrap (1 + T) = 1 + T := IntWalk.i64_in _ (by omega)
  simp -implicitDefEqProofs only [↓symPre, symPost, y_condP, y_condG, run, lver, minD, intsD, eqAll, tupD, splice, Nat.zero_add, Nat.add_zero, Nat.zero_mul, Nat.mul_one, Nat.one_mul, Nat.reduceAdd, Nat.reduceSub, Nat.reduceMul, Nat.reduceLT, Nat.reduceLeDiff, Nat.reduceEqDiff, true_and, and_true, true_implies, if_true, if_false, ite_true, reduceIte, ne_eq, not_false_eq_true, reduceCtorEq, forall_const, bne_self_eq_false, Bool.true_eq_false, Bool.false_eq_true, false_implies, and_self, implies_true, Int.toNat_zero, beq_self_eq_true, decide_true, decide_false, Bool.not_true, Bool.not_false, ↓y_lookv, y_key1, y_mlook, y_mlookn, y_mres1, y_mres0, ↓y_call, wT]
  refine snext_call (l := l1) (t := 8) (by omega) (by omega) (by omega) rfl rfl rfl fun M l2 hM0 hM1 hl2 => ?_
  have wM : IntKind.i64.wrap (1 + M) = 1 + M := IntWalk.i64_in _ (by omega)
  simp -implicitDefEqProofs only [↓symPre, symPost, y_condP, y_condG, run, lver, minD, intsD, eqAll, tupD, splice, Nat.zero_add, Nat.add_zero, Nat.zero_mul, Nat.mul_one, Nat.one_mul, Nat.reduceAdd, Nat.reduceSub, Nat.reduceMul, Nat.reduceLT, Nat.reduceLeDiff, Nat.reduceEqDiff, true_and, and_true, true_implies, if_true, if_false, ite_true, reduceIte, ne_eq, not_false_eq_true, reduceCtorEq, forall_const, bne_self_eq_false, Bool.true_eq_false, Bool.false_eq_true, false_implies, and_self, implies_true, Int.toNat_zero, beq_self_eq_true, decide_true, decide_false, Bool.not_true, Bool.not_false, ↓y_lookv, y_key1, y_mlook, y_mlookn, y_mres1, y_mres0, ↓y_call, wM]
  refine snext_call (l := l2) (t := 8) (by omega) (by omega) (by omega) rfl rfl rfl fun S l3 hS0 hS1 hl3 => ?_
  simp -implicitDefEqProofs only [↓symPre, symPost, y_condP, y_condG, run, lver, minD, intsD, eqAll, tupD, splice, Nat.zero_add, Nat.add_zero, Nat.zero_mul, Nat.mul_one, Nat.one_mul, Nat.reduceAdd, Nat.reduceSub, Nat.reduceMul, Nat.reduceLT, Nat.reduceLeDiff, Nat.reduceEqDiff, true_and, and_true, true_implies, if_true, if_false, ite_true, reduceIte, ne_eq, not_false_eq_true, reduceCtorEq, forall_const, bne_self_eq_false, Bool.true_eq_false, Bool.false_eq_true, false_implies, and_self, implies_true, Int.toNat_zero, beq_self_eq_true, decide_true, decide_false, Bool.not_true, Bool.not_false, ↓y_lookv, y_key1, y_mlook, y_mlookn, y_mres1, y_mres0, ↓y_call]
  refine snext_call (l := l3) (t := 8) (by omega) (by omega) (by omega) rfl rfl rfl fun C l4 hC0 hC1 hl4 => ?_
  have wC : IntKind.i64.wrap (1 + C) = 1 + C := IntWalk.i64_in _ (by omega)
  simp -implicitDefEqProofs only [↓symPre, symPost, y_condP, y_condG, run, lver, minD, intsD, eqAll, tupD, splice, Nat.zero_add, Nat.add_zero, Nat.zero_mul, Nat.mul_one, Nat.one_mul, Nat.reduceAdd, Nat.reduceSub, Nat.reduceMul, Nat.reduceLT, Nat.reduceLeDiff, Nat.reduceEqDiff, true_and, and_true, true_implies, if_true, if_false, ite_true, reduceIte, ne_eq, not_false_eq_true, reduceCtorEq, forall_const, bne_self_eq_false, Bool.true_eq_false, Bool.false_eq_true, false_implies, and_self, implies_true, Int.toNat_zero, beq_self_eq_true, decide_true, decide_false, Bool.not_true, Bool.not_false, ↓y_lookv, y_key1, y_mlook, y_mlookn, y_mres1, y_mres0, ↓y_call, wC]
  obtain ⟨c, hcc⟩ : ∃ c : Nat, 1 + C = c := ⟨(1 + C).toNat, by omega⟩
  obtain ⟨tt, htt⟩ : ∃ c : Nat, 1 + T = c := ⟨(1 + T).toNat, by omega⟩
  obtain ⟨mm, hmm⟩ : ∃ c : Nat, 1 + M = c := ⟨(1 + M).toNat, by omega⟩
  rw [hcc, htt, hmm]
  refine aloop (fun p : Nat × List Int × List Ru × Nat => St.mk n ([.top, .top, .ptr (n + 2) 1 0, .ptr (n + 8) 1 0, .ptr (n + 4) 1 0] ++ List.replicate 18 .top ++ [.int .i64 c, .int .i64 p.1] ++ List.replicate 47 .top) h
      ([blk0, blk0, ⟨1, .cells [.int .i64 0, .int .i64 0, .int .i64 0, .nils]⟩, blk0, ⟨1, .cells [.int .i64 tt, .int .i64 mm, .int .i64 S, .ref 2 (n + 68) p.2.2.2 0 p.2.2.1.length]⟩, blk0, blk0, blk0, ⟨1, .cells [iD p.2.1]⟩] ++ List.replicate 59 blk0 ++ [⟨p.2.2.2, .cells (cellsF ruleD p.2.2.1)⟩] ++ List.replicate 3 blk0))
      (fun p => p.1 ≤ c ∧ p.2.1.length ≤ l.length ∧ p.2.2.1.length ≤ p.1 ∧ (∀ r ∈ p.2.2.1, okRu tt mm r) ∧ p.2.2.1.Nodup ∧ 1 ≤ p.2.2.2) (fun p => c - p.1) (0, l4, [], 1) ⟨Nat.zero_le _, by simp only; omega, Nat.le_refl _, by simp, by simp, Nat.le_refl _⟩ ?_ ?_
  · refine le_to ([.hole, .hole, .old 2, .hole, .old 4, .hole, .hole, .hole, .old 8] ++ List.replicate 59 .hole ++ [.nil] ++ List.replicate 3 .hole) hl rfl ?_ ?_ <;> simp only [cellsF_nil] <;> ((try simp only [y_blk_end, y_blk_hole, y_blk_nil, y_blk_old, y_wkl_end, y_wkl_top, List.replicate, List.cons_append, List.nil_append, and_true, true_and]) <;> (repeat' (first | apply And.intro | apply y_wkl | refine Exists.intro _ (And.intro rfl ?_))) <;> (try first | exact trivial | exact Wk.top _ | exact wk_int rfl | exact wk_bool rfl | exact wk_ptr rfl rfl rfl rfl | exact wk_ref rfl rfl rfl rfl rfl | exact wk_nil rfl rfl rfl | exact wk_ref rfl rfl rfl rfl (by simp) | exact wk_ref rfl rfl rfl rfl (by simp; omega) | exact wk_old (by assumption) (by simp) | exact wk_eq rfl (by first | exact Bd.int _ _ | exact Bd.bool _ | exact Bd.abool | exact Bd.nils | exact Bd.emp | exact Bd.nilp | exact Bd.nilfn | assumption | exact low_trees _ _ | exact low_treeD _ _ | exact low_ints _ _) | exact Nat.le_refl _ | exact wk_int (by simp) | exact wk_int (by omega) | exact Nat.succ_le_succ (Nat.zero_le _) | exact Nat.le_add_left _ _ | omega))
  · rintro ⟨i, L, rs, v⟩ ⟨hi, hL, hrs, hok, hnd, hv⟩
    simp only at hi hL hrs hok hnd hv
    by_cases hlt : i < c
    · have f1 : (i : Int) < (c : Int) := by omega
      have w1 : IntKind.i64.wrap ((i : Int) + 1) = ((i + 1 : Nat) : Int) := by rw [IntWalk.i64_in _ (by omega)]; omega
      simp -implicitDefEqProofs only [↓symPre, symPost, y_condP, y_condG, run, lver, minD, intsD, eqAll, tupD, splice, Nat.zero_add, Nat.add_zero, Nat.zero_mul, Nat.mul_one, Nat.one_mul, Nat.reduceAdd, Nat.reduceSub, Nat.reduceMul, Nat.reduceLT, Nat.reduceLeDiff, Nat.reduceEqDiff, true_and, and_true, true_implies, if_true, if_false, ite_true, reduceIte, ne_eq, not_false_eq_true, reduceCtorEq, forall_const, bne_self_eq_false, Bool.true_eq_false, Bool.false_eq_true, false_implies, and_self, implies_true, Int.toNat_zero, beq_self_eq_true, decide_true, decide_false, Bool.not_true, Bool.not_false, ↓y_lookv, y_key1, y_mlook, y_mlookn, y_mres1, y_mres0, ↓y_call, f1, decide_true]
      refine snext_call (l := L) (t := 8) (by omega) (by omega) (by omega) rfl rfl rfl fun lf L1 hlf0 hlf1 hL1 => ?_
      simp -implicitDefEqProofs only [↓symPre, symPost, y_condP, y_condG, run, lver, minD, intsD, eqAll, tupD, splice, Nat.zero_add, Nat.add_zero, Nat.zero_mul, Nat.mul_one, Nat.one_mul, Nat.reduceAdd, Nat.reduceSub, Nat.reduceMul, Nat.reduceLT, Nat.reduceLeDiff, Nat.reduceEqDiff, true_and, and_true, true_implies, if_true, if_false, ite_true, reduceIte, ne_eq, not_false_eq_true, reduceCtorEq, forall_const, bne_self_eq_false, Bool.true_eq_false, Bool.false_eq_true, false_implies, and_self, implies_true, Int.toNat_zero, beq_self_eq_true, decide_true, decide_false, Bool.not_true, Bool.not_false, ↓y_lookv, y_key1, y_mlook, y_mlookn, y_mres1, y_mres0, ↓y_call]
      refine snext_call (l := L1) (t := 8) (by omega) (by omega) (by omega) rfl rfl rfl fun K L2 hK0 hK1 hL2 => ?_
      simp -implicitDefEqProofs only [↓symPre, symPost, y_condP, y_condG, run, lver, minD, intsD, eqAll, tupD, splice, Nat.zero_add, Nat.add_zero, Nat.zero_mul, Nat.mul_one, Nat.one_mul, Nat.reduceAdd, Nat.reduceSub, Nat.reduceMul, Nat.reduceLT, Nat.reduceLeDiff, Nat.reduceEqDiff, true_and, and_true, true_implies, if_true, if_false, ite_true, reduceIte, ne_eq, not_false_eq_true, reduceCtorEq, forall_const, bne_self_eq_false, Bool.true_eq_false, Bool.false_eq_true, false_implies, and_self, implies_true, Int.toNat_zero, beq_self_eq_true, decide_true, decide_false, Bool.not_true, Bool.not_false, ↓y_lookv, y_key1, y_mlook, y_mlookn, y_mres1, y_mres0, ↓y_call]
      obtain ⟨k, rfl⟩ : ∃ c : Nat, K = c := ⟨K.toNat, by omega⟩
      refine aloop (fun q : Nat × List Int × List Sy × Nat => St.mk n ([.top, .top, .ptr (n + 2) 1 0, .ptr (n + 8) 1 0, .ptr (n + 4) 1 0, .ptr (n + 5) 1 0] ++ List.replicate 17 .top ++ [.int .i64 c, .int .i64 i] ++ List.replicate 7 .top ++ [.int .i64 k, .int .i64 q.1] ++ List.replicate 38 .top) h
          ([blk0, blk0, ⟨1, .cells [.int .i64 0, .int .i64 0, .int .i64 0, .nils]⟩, blk0, ⟨1, .cells [.int .i64 tt, .int .i64 mm, .int .i64 S, .ref 2 (n + 68) v 0 rs.length]⟩, ⟨1, .cells [.int .i64 lf, .ref 2 (n + 46) q.2.2.2 0 q.2.2.1.length]⟩, blk0, blk0, ⟨1, .cells [iD q.2.1]⟩] ++ List.replicate 37 blk0 ++ [⟨q.2.2.2, .cells (cellsF symD q.2.2.1)⟩] ++ List.replicate 21 blk0 ++ [⟨v, .cells (cellsF ruleD rs)⟩] ++ List.replicate 3 blk0))
          (fun q => q.1 ≤ k ∧ q.2.1.length ≤ l.length ∧ q.2.2.1.length = q.1 ∧ (∀ s ∈ q.2.2.1, okSy tt mm s) ∧ 1 ≤ q.2.2.2) (fun q => k - q.1) (0, L2, [], 1) ⟨Nat.zero_le _, by simp only; omega, rfl, by simp, Nat.le_refl _⟩ ?_ ?_
      · refine le_to ([.hole, .hole, .old 2, .hole, .old 4, .old 5, .hole, .hole, .old 8] ++ List.replicate 37 .hole ++ [.nil] ++ List.replicate 21 .hole ++ [.old 68] ++ List.replicate 3 .hole) hl rfl ?_ ?_ <;> simp only [cellsF_nil] <;> ((try simp only [y_blk_end, y_blk_hole, y_blk_nil, y_blk_old, y_wkl_end, y_wkl_top, List.replicate, List.cons_append, List.nil_append, and_true, true_and]) <;> (repeat' (first | apply And.intro | apply y_wkl | refine Exists.intro _ (And.intro rfl ?_))) <;> (try first | exact trivial | exact Wk.top _ | exact wk_int rfl | exact wk_bool rfl | exact wk_ptr rfl rfl rfl rfl | exact wk_ref rfl rfl rfl rfl rfl | exact wk_nil rfl rfl rfl | exact wk_ref rfl rfl rfl rfl (by simp) | exact wk_ref rfl rfl rfl rfl (by simp; omega) | exact wk_old (by assumption) (by simp) | exact wk_eq rfl (by first | exact Bd.int _ _ | exact Bd.bool _ | exact Bd.abool | exact Bd.nils | exact Bd.emp | exact Bd.nilp | exact Bd.nilfn | assumption | exact low_trees _ _ | exact low_treeD _ _ | exact low_ints _ _) | exact Nat.le_refl _ | exact wk_int (by simp) | exact wk_int (by omega) | exact Nat.succ_le_succ (Nat.zero_le _) | exact Nat.le_add_left _ _ | omega))
        exact WkL.low (low_cellsF ruleD (low_ruleD n) rs)
      · rintro ⟨j, R, A, u⟩ ⟨hj, hR, hA, hoA, hu⟩
        simp only at hj hR hA hoA hu
        by_cases hjl : j < k
        · have g1 : (j : Int) < (k : Int) := by omega
          have w2 : IntKind.i64.wrap ((j : Int) + 1) = ((j + 1 : Nat) : Int) := by rw [IntWalk.i64_in _ (by omega)]; omega
          have hAc : (cellsF symD A).length = A.length * 2 := cellsF_len symD symD_cells A
          have hf16 : (A.length + 1) * 16 ≤ 140737488355328 := by omega
          have hCt := take_all (cellsF symD A) (k := A.length * 2) (by rw [hAc])
          have hfit : A.length * 2 ≤ (cellsF symD A).length := by omega
          have hlA := low_cellsF symD (low_symD n) A
          simp -implicitDefEqProofs only [↓symPre, symPost, y_condP, y_condG, run, lver, minD, intsD, eqAll, tupD, splice, Nat.zero_add, Nat.add_zero, Nat.zero_mul, Nat.mul_one, Nat.one_mul, Nat.reduceAdd, Nat.reduceSub, Nat.reduceMul, Nat.reduceLT, Nat.reduceLeDiff, Nat.reduceEqDiff, true_and, and_true, true_implies, if_true, if_false, ite_true, reduceIte, ne_eq, not_false_eq_true, reduceCtorEq, forall_const, bne_self_eq_false, Bool.true_eq_false, Bool.false_eq_true, false_implies, and_self, implies_true, Int.toNat_zero, beq_self_eq_true, decide_true, decide_false, Bool.not_true, Bool.not_false, ↓y_lookv, y_key1, y_mlook, y_mlookn, y_mres1, y_mres0, ↓y_call, g1, decide_true]
          refine snext_call (l := R) (t := 8) (by omega) (by omega) (by omega) rfl rfl rfl fun B R1 hB0 hB1 hR1 => ?_
          simp -implicitDefEqProofs only [↓symPre, symPost, y_condP, y_condG, run, lver, minD, intsD, eqAll, tupD, splice, Nat.zero_add, Nat.add_zero, Nat.zero_mul, Nat.mul_one, Nat.one_mul, Nat.reduceAdd, Nat.reduceSub, Nat.reduceMul, Nat.reduceLT, Nat.reduceLeDiff, Nat.reduceEqDiff, true_and, and_true, true_implies, if_true, if_false, ite_true, reduceIte, ne_eq, not_false_eq_true, reduceCtorEq, forall_const, bne_self_eq_false, Bool.true_eq_false, Bool.false_eq_true, false_implies, and_self, implies_true, Int.toNat_zero, beq_self_eq_true, decide_true, decide_false, Bool.not_true, Bool.not_false, ↓y_lookv, y_key1, y_mlook, y_mlookn, y_mres1, y_mres0, ↓y_call]
          by_cases hB : B = 0
          · have b1 : (B == 0) = true := by simp [hB]
            have hx := snext_range R1 tt (by omega)
            simp -implicitDefEqProofs only [↓symPre, symPost, y_condP, y_condG, run, lver, minD, intsD, eqAll, tupD, splice, Nat.zero_add, Nat.add_zero, Nat.zero_mul, Nat.mul_one, Nat.one_mul, Nat.reduceAdd, Nat.reduceSub, Nat.reduceMul, Nat.reduceLT, Nat.reduceLeDiff, Nat.reduceEqDiff, true_and, and_true, true_implies, if_true, if_false, ite_true, reduceIte, ne_eq, not_false_eq_true, reduceCtorEq, forall_const, bne_self_eq_false, Bool.true_eq_false, Bool.false_eq_true, false_implies, and_self, implies_true, Int.toNat_zero, beq_self_eq_true, decide_true, decide_false, Bool.not_true, Bool.not_false, ↓y_lookv, y_key1, y_mlook, y_mlookn, y_mres1, y_mres0, ↓y_call, b1]
            refine adrawq hmix [[], [], [], [], [], [n + 8], [], [], [], [], [n + 5]] ?_
            simp (maxSteps := 400000) -implicitDefEqProofs only [↓symPre, symPost, y_condP, y_condG, run, lver, minD, intsD, eqAll, tupD, splice, Nat.zero_add, Nat.add_zero, Nat.zero_mul, Nat.mul_one, Nat.one_mul, Nat.reduceAdd, Nat.reduceSub, Nat.reduceMul, Nat.reduceLT, Nat.reduceLeDiff, Nat.reduceEqDiff, true_and, and_true, true_implies, if_true, if_false, ite_true, reduceIte, ne_eq, not_false_eq_true, reduceCtorEq, forall_const, bne_self_eq_false, Bool.true_eq_false, Bool.false_eq_true, false_implies, and_self, implies_true, Int.toNat_zero, beq_self_eq_true, decide_true, decide_false, Bool.not_true, Bool.not_false, ↓y_lookv, y_key1, y_mlook, y_mlookn, y_mres1, y_mres0, ↓y_call, ↓y_adq0, ↓y_adq, ↓y_stepQ_call, ↓y_adq_onT, ↓y_adq_onF, ↓y_adq_onS, drawPost, isCall, isNew, isEff, Option.toList, or_false, false_or, cond_true, cond_false, not_true_eq_false, or_true, true_or, Nat.add_left_cancel_iff, Bool.false_eq_true, ↓y_q0, ↓y_q1, ↓y_q1e, y_qn, isMap, List.flatMap_cons, List.flatMap_nil, List.append_nil, List.getD_cons_succ, List.getD_cons_zero]
            refine ⟨_, _, ACalls.oneD (t := 8) (r := .int .i64 (snext R1 tt)) (x := ⟨1, .cells [iD R1.tail]⟩) rfl ?_ ?_, ?_, ?_⟩
            · intro s hs
              exact at_snext R1 tt (by omega) (by omega) (by omega) (by show n + 8 < n + 72; omega) (hs.hp (by show mrg n h _ (n + 8) = _; rw [mrg_loc]; rfl))
            · show 8 < 72; omega
            · exact (by simp [y_cov0, y_cov1, isNew, isEff, Option.toList])
            generalize snext R1 tt = y at *
            simp (maxSteps := 400000) -implicitDefEqProofs only [↓symPre, symPost, y_condP, y_condG, run, lver, minD, intsD, eqAll, tupD, splice, Nat.zero_add, Nat.add_zero, Nat.zero_mul, Nat.mul_one, Nat.one_mul, Nat.reduceAdd, Nat.reduceSub, Nat.reduceMul, Nat.reduceLT, Nat.reduceLeDiff, Nat.reduceEqDiff, true_and, and_true, true_implies, if_true, if_false, ite_true, reduceIte, ne_eq, not_false_eq_true, reduceCtorEq, forall_const, bne_self_eq_false, Bool.true_eq_false, Bool.false_eq_true, false_implies, and_self, implies_true, Int.toNat_zero, beq_self_eq_true, decide_true, decide_false, Bool.not_true, Bool.not_false, ↓y_lookv, y_key1, y_mlook, y_mlookn, y_mres1, y_mres0, ↓y_call, ↓y_adq0, ↓y_adq, ↓y_stepQ_call, ↓y_adq_onT, ↓y_adq_onF, ↓y_adq_onS, drawPost, isCall, isNew, isEff, Option.toList, or_false, false_or, cond_true, cond_false, not_true_eq_false, or_true, true_or, Nat.add_left_cancel_iff, Bool.false_eq_true, ↓y_q0, ↓y_q1, ↓y_q1e, y_qn, isMap, List.length_map, srcOf, Nat.le_refl, hf16, hCt, hfit, List.getD_cons_succ, List.getD_cons_zero, w2]
            refine ⟨by rintro c (rfl | rfl) <;> rfl, by rintro c rfl; rfl, (j + 1, R1.tail, A ++ [⟨true, y⟩], u + 1), ⟨by simp only; omega, by simp; omega, by simp [hA], ?_, by simp only; omega⟩, by simp only; omega, ?_⟩
            · intro s hs
              rcases List.mem_append.1 hs with hs | hs
              · exact hoA s hs
              · simp only [List.mem_cons, List.not_mem_nil, or_false] at hs
                subst hs
                exact ⟨hx.1, fun _ => hx.2, fun h => by cases h⟩
            simp only [← sym_one_cells]
            refine le_to ([.hole, .hole, .old 2, .hole, .old 4, .old 5, .hole, .hole, .old 8] ++ List.replicate 37 .hole ++ [.old 46] ++ List.replicate 21 .hole ++ [.old 68] ++ List.replicate 3 .hole) hl rfl ?_ ?_ <;> ((try simp only [y_blk_end, y_blk_hole, y_blk_nil, y_blk_old, y_wkl_end, y_wkl_top, List.replicate, List.cons_append, List.nil_append, and_true, true_and]) <;> (repeat' (first | apply And.intro | apply y_wkl | refine Exists.intro _ (And.intro rfl ?_))) <;> (try first | exact trivial | exact Wk.top _ | exact wk_int rfl | exact wk_bool rfl | exact wk_ptr rfl rfl rfl rfl | exact wk_ref rfl rfl rfl rfl rfl | exact wk_nil rfl rfl rfl | exact wk_ref rfl rfl rfl rfl (by simp) | exact wk_ref rfl rfl rfl rfl (by simp; omega) | exact wk_old (by assumption) (by simp) | exact wk_eq rfl (by first | exact Bd.int _ _ | exact Bd.bool _ | exact Bd.abool | exact Bd.nils | exact Bd.emp | exact Bd.nilp | exact Bd.nilfn | assumption | exact low_trees _ _ | exact low_treeD _ _ | exact low_ints _ _) | exact Nat.le_refl _ | exact wk_int (by simp) | exact wk_int (by omega) | exact Nat.succ_le_succ (Nat.zero_le _) | exact Nat.le_add_left _ _ | omega))
            · exact WkL.app (WkL.low hlA) (y_wkl (wk_bool rfl) (y_wkl (wk_int rfl) trivial))
            · exact WkL.low (low_cellsF ruleD (low_ruleD n) rs)
          · have b1 : (B == 0) = false := by simp [hB]
            have hx := snext_range R1 mm (by omega)
            simp -implicitDefEqProofs only [↓symPre, symPost, y_condP, y_condG, run, lver, minD, intsD, eqAll, tupD, splice, Nat.zero_add, Nat.add_zero, Nat.zero_mul, Nat.mul_one, Nat.one_mul, Nat.reduceAdd, Nat.reduceSub, Nat.reduceMul, Nat.reduceLT, Nat.reduceLeDiff, Nat.reduceEqDiff, true_and, and_true, true_implies, if_true, if_false, ite_true, reduceIte, ne_eq, not_false_eq_true, reduceCtorEq, forall_const, bne_self_eq_false, Bool.true_eq_false, Bool.false_eq_true, false_implies, and_self, implies_true, Int.toNat_zero, beq_self_eq_true, decide_true, decide_false, Bool.not_true, Bool.not_false, ↓y_lookv, y_key1, y_mlook, y_mlookn, y_mres1, y_mres0, ↓y_call, b1]
            refine adrawq hmix [[], [], [], [], [], [n + 8], [], [], [n + 46], [], [n + 5]] ?_
            simp (maxSteps := 400000) -implicitDefEqProofs only [↓symPre, symPost, y_condP, y_condG, run, lver, minD, intsD, eqAll, tupD, splice, Nat.zero_add, Nat.add_zero, Nat.zero_mul, Nat.mul_one, Nat.one_mul, Nat.reduceAdd, Nat.reduceSub, Nat.reduceMul, Nat.reduceLT, Nat.reduceLeDiff, Nat.reduceEqDiff, true_and, and_true, true_implies, if_true, if_false, ite_true, reduceIte, ne_eq, not_false_eq_true, reduceCtorEq, forall_const, bne_self_eq_false, Bool.true_eq_false, Bool.false_eq_true, false_implies, and_self, implies_true, Int.toNat_zero, beq_self_eq_true, decide_true, decide_false, Bool.not_true, Bool.not_false, ↓y_lookv, y_key1, y_mlook, y_mlookn, y_mres1, y_mres0, ↓y_call, ↓y_adq0, ↓y_adq, ↓y_stepQ_call, ↓y_adq_onT, ↓y_adq_onF, ↓y_adq_onS, drawPost, isCall, isNew, isEff, Option.toList, or_false, false_or, cond_true, cond_false, not_true_eq_false, or_true, true_or, Nat.add_left_cancel_iff, Bool.false_eq_true, ↓y_q0, ↓y_q1, ↓y_q1e, y_qn, isMap, List.flatMap_cons, List.flatMap_nil, List.append_nil, List.getD_cons_succ, List.getD_cons_zero]
            refine ⟨_, _, ACalls.oneD (t := 8) (r := .int .i64 (snext R1 mm)) (x := ⟨1, .cells [iD R1.tail]⟩) rfl ?_ ?_, ?_, ?_⟩
            · intro s hs
              exact at_snext R1 mm (by omega) (by omega) (by omega) (by show n + 8 < n + 72; omega) (hs.hp (by show mrg n h _ (n + 8) = _; rw [mrg_loc]; rfl))
            · show 8 < 72; omega
            · exact (by simp [y_cov0, y_cov1, isNew, isEff, Option.toList])
            generalize snext R1 mm = y at *
            simp (maxSteps := 400000) -implicitDefEqProofs only [↓symPre, symPost, y_condP, y_condG, run, lver, minD, intsD, eqAll, tupD, splice, Nat.zero_add, Nat.add_zero, Nat.zero_mul, Nat.mul_one, Nat.one_mul, Nat.reduceAdd, Nat.reduceSub, Nat.reduceMul, Nat.reduceLT, Nat.reduceLeDiff, Nat.reduceEqDiff, true_and, and_true, true_implies, if_true, if_false, ite_true, reduceIte, ne_eq, not_false_eq_true, reduceCtorEq, forall_const, bne_self_eq_false, Bool.true_eq_false, Bool.false_eq_true, false_implies, and_self, implies_true, Int.toNat_zero, beq_self_eq_true, decide_true, decide_false, Bool.not_true, Bool.not_false, ↓y_lookv, y_key1, y_mlook, y_mlookn, y_mres1, y_mres0, ↓y_call, ↓y_adq0, ↓y_adq, ↓y_stepQ_call, ↓y_adq_onT, ↓y_adq_onF, ↓y_adq_onS, drawPost, isCall, isNew, isEff, Option.toList, or_false, false_or, cond_true, cond_false, not_true_eq_false, or_true, true_or, Nat.add_left_cancel_iff, Bool.false_eq_true, ↓y_q0, ↓y_q1, ↓y_q1e, y_qn, isMap, List.length_map, srcOf, Nat.le_refl, hf16, hCt, hfit, List.getD_cons_succ, List.getD_cons_zero, w2]
            refine ⟨by rintro c (rfl | rfl) <;> rfl, by rintro c rfl; rfl, (j + 1, R1.tail, A ++ [⟨false, y⟩], u + 1), ⟨by simp only; omega, by simp; omega, by simp [hA], ?_, by simp only; omega⟩, by simp only; omega, ?_⟩
            · intro s hs
              rcases List.mem_append.1 hs with hs | hs
              · exact hoA s hs
              · simp only [List.mem_cons, List.not_mem_nil, or_false] at hs
                subst hs
                exact ⟨hx.1, (fun h => by cases h), fun _ => hx.2⟩
            simp only [← sym_one_cells]
            refine le_to ([.hole, .hole, .old 2, .hole, .old 4, .old 5, .hole, .hole, .old 8] ++ List.replicate 37 .hole ++ [.old 46] ++ List.replicate 21 .hole ++ [.old 68] ++ List.replicate 3 .hole) hl rfl ?_ ?_ <;> ((try simp only [y_blk_end, y_blk_hole, y_blk_nil, y_blk_old, y_wkl_end, y_wkl_top, List.replicate, List.cons_append, List.nil_append, and_true, true_and]) <;> (repeat' (first | apply And.intro | apply y_wkl | refine Exists.intro _ (And.intro rfl ?_))) <;> (try first | exact trivial | exact Wk.top _ | exact wk_int rfl | exact wk_bool rfl | exact wk_ptr rfl rfl rfl rfl | exact wk_ref rfl rfl rfl rfl rfl | exact wk_nil rfl rfl rfl | exact wk_ref rfl rfl rfl rfl (by simp) | exact wk_ref rfl rfl rfl rfl (by simp; omega) | exact wk_old (by assumption) (by simp) | exact wk_eq rfl (by first | exact Bd.int _ _ | exact Bd.bool _ | exact Bd.abool | exact Bd.nils | exact Bd.emp | exact Bd.nilp | exact Bd.nilfn | assumption | exact low_trees _ _ | exact low_treeD _ _ | exact low_ints _ _) | exact Nat.le_refl _ | exact wk_int (by simp) | exact wk_int (by omega) | exact Nat.succ_le_succ (Nat.zero_le _) | exact Nat.le_add_left _ _ | omega))
            · exact WkL.app (WkL.low hlA) (y_wkl (wk_bool rfl) (y_wkl (wk_int rfl) trivial))
            · exact WkL.low (low_cellsF ruleD (low_ruleD n) rs)
        · have g1 : ¬ (j : Int) < (k : Int) := by omega
          have hjk : j = k := by omega
          subst hjk
          have hrc : (cellsF ruleD rs).length = rs.length * 2 := cellsF_len ruleD ruleD_cells rs
          have hf32 : (rs.length + 1) * 32 ≤ 140737488355328 := by omega
          have hCt := take_all (cellsF ruleD rs) (k := rs.length * 2) (by rw [hrc])
          have hfit : rs.length * 2 ≤ (cellsF ruleD rs).length := by omega
          have hx62 : ∀ x ∈ rs, x.right.length < 2 ^ 60 := fun x hx => by have := (hok x hx).2.2.1; omega
          simp -implicitDefEqProofs only [↓symPre, symPost, y_condP, y_condG, run, lver, minD, intsD, eqAll, tupD, splice, Nat.zero_add, Nat.add_zero, Nat.zero_mul, Nat.mul_one, Nat.one_mul, Nat.reduceAdd, Nat.reduceSub, Nat.reduceMul, Nat.reduceLT, Nat.reduceLeDiff, Nat.reduceEqDiff, true_and, and_true, true_implies, if_true, if_false, ite_true, reduceIte, ne_eq, not_false_eq_true, reduceCtorEq, forall_const, bne_self_eq_false, Bool.true_eq_false, Bool.false_eq_true, false_implies, and_self, implies_true, Int.toNat_zero, beq_self_eq_true, decide_true, decide_false, Bool.not_true, Bool.not_false, ↓y_lookv, y_key1, y_mlook, y_mlookn, y_mres1, y_mres0, ↓y_call, g1, decide_false]
          refine (pure_has rs ⟨lf, A⟩ (by omega) (by simp only; omega) hx62).callF (.bool _) rfl
            (y_wkl (fz_F ruleD ruleD_cells (low_ruleD 0) (by omega) (by show mrg n h _ (n + 68) = _; rw [mrg_loc]; rfl) rfl) (y_wkl (wk_agg2 (fz_low (.int ..)) (fz_F symD symD_cells (low_symD 0) (by omega) (by show mrg n h _ (n + 46) = _; rw [mrg_loc]; rfl) rfl)) trivial)) ?_
          by_cases hm : (⟨lf, A⟩ : Ru) ∈ rs
          · have b1 : decide ((⟨lf, A⟩ : Ru) ∈ rs) = true := by simp [hm]
            simp -implicitDefEqProofs only [↓symPre, symPost, y_condP, y_condG, run, lver, minD, intsD, eqAll, tupD, splice, Nat.zero_add, Nat.add_zero, Nat.zero_mul, Nat.mul_one, Nat.one_mul, Nat.reduceAdd, Nat.reduceSub, Nat.reduceMul, Nat.reduceLT, Nat.reduceLeDiff, Nat.reduceEqDiff, true_and, and_true, true_implies, if_true, if_false, ite_true, reduceIte, ne_eq, not_false_eq_true, reduceCtorEq, forall_const, bne_self_eq_false, Bool.true_eq_false, Bool.false_eq_true, false_implies, and_self, implies_true, Int.toNat_zero, beq_self_eq_true, decide_true, decide_false, Bool.not_true, Bool.not_false, ↓y_lookv, y_key1, y_mlook, y_mlookn, y_mres1, y_mres0, ↓y_call, b1, w1]
            refine ⟨(i + 1, R, rs, v), ⟨by simp only; omega, by simp only; omega, by simp only; omega, hok, hnd, hv⟩, by simp only; omega, ?_⟩
            refine le_to ([.hole, .hole, .old 2, .hole, .old 4, .hole, .hole, .hole, .old 8] ++ List.replicate 59 .hole ++ [.old 68] ++ List.replicate 3 .hole) hl rfl ?_ ?_ <;> ((try simp only [y_blk_end, y_blk_hole, y_blk_nil, y_blk_old, y_wkl_end, y_wkl_top, List.replicate, List.cons_append, List.nil_append, and_true, true_and]) <;> (repeat' (first | apply And.intro | apply y_wkl | refine Exists.intro _ (And.intro rfl ?_))) <;> (try first | exact trivial | exact Wk.top _ | exact wk_int rfl | exact wk_bool rfl | exact wk_ptr rfl rfl rfl rfl | exact wk_ref rfl rfl rfl rfl rfl | exact wk_nil rfl rfl rfl | exact wk_ref rfl rfl rfl rfl (by simp) | exact wk_ref rfl rfl rfl rfl (by simp; omega) | exact wk_old (by assumption) (by simp) | exact wk_eq rfl (by first | exact Bd.int _ _ | exact Bd.bool _ | exact Bd.abool | exact Bd.nils | exact Bd.emp | exact Bd.nilp | exact Bd.nilfn | assumption | exact low_trees _ _ | exact low_treeD _ _ | exact low_ints _ _) | exact Nat.le_refl _ | exact wk_int (by simp) | exact wk_int (by omega) | exact Nat.succ_le_succ (Nat.zero_le _) | exact Nat.le_add_left _ _ | omega))
            exact WkL.low (low_cellsF ruleD (low_ruleD n) rs)
          · have b1 : decide ((⟨lf, A⟩ : Ru) ∈ rs) = false := by simp [hm]
            simp -implicitDefEqProofs only [↓symPre, symPost, y_condP, y_condG, run, lver, minD, intsD, eqAll, tupD, splice, Nat.zero_add, Nat.add_zero, Nat.zero_mul, Nat.mul_one, Nat.one_mul, Nat.reduceAdd, Nat.reduceSub, Nat.reduceMul, Nat.reduceLT, Nat.reduceLeDiff, Nat.reduceEqDiff, true_and, and_true, true_implies, if_true, if_false, ite_true, reduceIte, ne_eq, not_false_eq_true, reduceCtorEq, forall_const, bne_self_eq_false, Bool.true_eq_false, Bool.false_eq_true, false_implies, and_self, implies_true, Int.toNat_zero, beq_self_eq_true, decide_true, decide_false, Bool.not_true, Bool.not_false, ↓y_lookv, y_key1, y_mlook, y_mlookn, y_mres1, y_mres0, ↓y_call, b1, w1, srcOf, Nat.le_refl, hf32, hCt, hfit]
            refine ⟨(i + 1, R, rs ++ [⟨lf, A⟩], v + 1), ⟨by simp only; omega, by simp only; omega, by simp; omega, ?_, ?_, by simp only; omega⟩, by simp only; omega, ?_⟩
            · intro r hr
              rcases List.mem_append.1 hr with hr | hr
              · exact hok r hr
              · simp only [List.mem_cons, List.not_mem_nil, or_false] at hr
                subst hr
                exact ⟨hlf0, hlf1, by simp only; omega, hoA⟩
            · simp only
              rw [List.nodup_append]
              exact ⟨hnd, by simp, fun a ha b hb e => by
                simp only [List.mem_cons, List.not_mem_nil, or_false] at hb
                subst hb; subst e; exact hm ha⟩
            simp only [← rule_one_cells]
            refine le_to ([.hole, .hole, .old 2, .hole, .old 4, .hole, .hole, .hole, .old 8] ++ List.replicate 59 .hole ++ [.old 68] ++ List.replicate 3 .hole) hl rfl ?_ ?_ <;> ((try simp only [y_blk_end, y_blk_hole, y_blk_nil, y_blk_old, y_wkl_end, y_wkl_top, List.replicate, List.cons_append, List.nil_append, and_true, true_and]) <;> (repeat' (first | apply And.intro | apply y_wkl | refine Exists.intro _ (And.intro rfl ?_))) <;> (try first | exact trivial | exact Wk.top _ | exact wk_int rfl | exact wk_bool rfl | exact wk_ptr rfl rfl rfl rfl | exact wk_ref rfl rfl rfl rfl rfl | exact wk_nil rfl rfl rfl | exact wk_ref rfl rfl rfl rfl (by simp) | exact wk_ref rfl rfl rfl rfl (by simp; omega) | exact wk_old (by assumption) (by simp) | exact wk_eq rfl (by first | exact Bd.int _ _ | exact Bd.bool _ | exact Bd.abool | exact Bd.nils | exact Bd.emp | exact Bd.nilp | exact Bd.nilfn | assumption | exact low_trees _ _ | exact low_treeD _ _ | exact low_ints _ _) | exact Nat.le_refl _ | exact wk_int (by simp) | exact wk_int (by omega) | exact Nat.succ_le_succ (Nat.zero_le _) | exact Nat.le_add_left _ _ | omega))
            exact WkL.app (WkL.low (low_cellsF ruleD (low_ruleD n) rs)) (y_wkl (wk_int rfl) (y_wkl (wk_frzF symD symD_cells (low_symD n) (t := 46) rfl rfl (by simp) rfl) trivial))
    · have f1 : ¬ (i : Int) < (c : Int) := by omega
      simp -implicitDefEqProofs only [↓symPre, symPost, y_condP, y_condG, run, lver, minD, intsD, eqAll, tupD, splice, Nat.zero_add, Nat.add_zero, Nat.zero_mul, Nat.mul_one, Nat.one_mul, Nat.reduceAdd, Nat.reduceSub, Nat.reduceMul, Nat.reduceLT, Nat.reduceLeDiff, Nat.reduceEqDiff, true_and, and_true, true_implies, if_true, if_false, ite_true, reduceIte, ne_eq, not_false_eq_true, reduceCtorEq, forall_const, bne_self_eq_false, Bool.true_eq_false, Bool.false_eq_true, false_implies, and_self, implies_true, Int.toNat_zero, beq_self_eq_true, decide_true, decide_false, Bool.not_true, Bool.not_false, ↓y_lookv, y_key1, y_mlook, y_mlookn, y_mres1, y_mres0, ↓y_call, f1, decide_false]
      exact fin_wk hl (wk_agg4 wk_i wk_i wk_i (wk_frzF ruleD ruleD_cells (low_ruleD n) (t := 68) rfl rfl (by simp) rfl)) ⟨rfl, rfl, ⟨tt, mm, S, rs⟩, ⟨by simp only; omega, by simp only; omega, by simp only; omega, by simp only; omega, hok, hnd⟩, rfl⟩

end Abs
end Go.Proofs.Ytokdeeagghhliaa
