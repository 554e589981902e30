/- Clone of trees, the arrays along a path alive. -/
import Derived.Test.YtfojedaccfenfaaS1
import Derived.Test.YtfojedaccfenfaaH2
namespace Go.Proofs.Ytfojedaccfenfaa
namespace Abs
set_option linter.unusedVariables false
set_option linter.unusedSimpArgs false
set_option maxRecDepth 20000

/-- the kids' cells, kid j's others -/
def kidsC (ks : List Tree) (j : Nat) (d : List D) : List D := cellsF treeD (ks.take j) ++ d ++ cellsF treeD (ks.drop (j + 1))

/-- the tree t with s at the path: its arrays along the path lie at n, n + 1, .. -/
def spD : List Int → Nat → Tree → Tree → D
  | [], _, _, s => treeD s
  | _ :: _, n, .mk r tm ks, _ => .agg [.int .i64 r, .int .i64 tm, .ref 3 n 1 0 ks.length]
def spB : List Int → Nat → Tree → Tree → List Blk
  | [], _, _, _ => []
  | j :: q, n, .mk r tm ks, s => match ks[j.toNat]? with
    | some k => ⟨1, .cells (kidsC ks j.toNat (spD q (n + 1) k s).cells)⟩ :: spB q (n + 1) k s
    | none => []

theorem spD_cells (p : List Int) (n : Nat) (t s : Tree) : (spD p n t s).cells.length = 3 := by
  cases p with
  | nil => exact treeD_cells s
  | cons j q => cases t; rfl

theorem cells_take (ks : List Tree) (j : Nat) (hj : j ≤ ks.length) : (cellsF treeD (ks.take j)).length = j * 3 := by
  rw [cellsF_len treeD treeD_cells, List.length_take, Nat.min_eq_left hj]
theorem kidsC_len {ks : List Tree} {j : Nat} {d : List D} (hj : j < ks.length) (hd : d.length = 3) : (kidsC ks j d).length = ks.length * 3 := by
  simp only [kidsC, List.length_append, cells_take ks j (by omega), hd, cellsF_len treeD treeD_cells, List.length_drop]
  omega
theorem kidsC_self {ks : List Tree} {j : Nat} (hj : j < ks.length) : kidsC ks j (treeD ks[j]).cells = cellsF treeD ks := by
  have h1 : ks = ks.take j ++ ([ks[j]] ++ ks.drop (j + 1)) := by rw [List.singleton_append, ← List.drop_eq_getElem_cons hj, List.take_append_drop]
  conv => rhs; rw [h1]
  rw [cellsF_app, cellsF_app, cellsF_one, kidsC, List.append_assoc]
theorem kidsC_splice {ks : List Tree} {j : Nat} {d e : List D} (hj : j < ks.length) (hd : d.length = 3) : (kidsC ks j d).take (j * 3) ++ e ++ (kidsC ks j d).drop (j * 3 + 3) = kidsC ks j e := by
  have hl := cells_take ks j (by omega)
  simp only [kidsC]
  rw [List.append_assoc _ d, List.take_left' hl, ← List.drop_drop, List.drop_left' hl, List.drop_left' hd]
theorem kidsC_ld {ks : List Tree} {j : Nat} {d : List D} (hj : j < ks.length) (hd : d.length = 3) : ((kidsC ks j d).drop (j * 3)).take 3 = d := by
  have hl := cells_take ks j (by omega)
  simp only [kidsC]
  rw [List.append_assoc, List.drop_left' hl, List.take_left' hd]
theorem kidsC_hi {ks : List Tree} {i j : Nat} {d : List D} (hi : i < ks.length) (hj : j < i) (hd : d.length = 3) {r t : Int} {k : List Tree} (e : ks[i] = .mk r t k) :
    ((kidsC ks j d).drop (i * 3)).take 3 = [.int .i64 r, .int .i64 t, .lst (k.map treeD)] := by
  have hl := cells_take ks j (by omega)
  have e2 : (kidsC ks j d).drop (i * 3) = (cellsF treeD (ks.drop (j + 1))).drop ((i - (j + 1)) * 3) := by
    have hlen : (cellsF treeD (ks.take j) ++ d).length = (j + 1) * 3 := by rw [List.length_append, hl, hd]; omega
    simp only [kidsC]
    rw [show i * 3 = (j + 1) * 3 + (i - (j + 1)) * 3 by omega, ← List.drop_drop, List.drop_left' hlen]
  rw [e2]
  refine cellsT_ld (ks.drop (j + 1)) (i - (j + 1)) (by simp; omega) ?_
  rw [List.getElem_drop]
  simp only [show j + 1 + (i - (j + 1)) = i by omega, e]
theorem splice_same {α : Type} (l : List α) (a : Nat) {x : List α} (h : (l.drop a).take 3 = x) : l.take a ++ x ++ l.drop (a + 3) = l := by
  rw [← h, List.append_assoc, ← List.drop_drop, List.take_append_drop, List.take_append_drop]

theorem spB_len : ∀ (p : List Int) (n : Nat) (t x s : Tree), belowT t p = some x → (spB p n t s).length = p.length
  | [], _, _, _, _, _ => rfl
  | j :: q, n, .mk r tm ks, x, s, h => by
    simp only [belowT, Option.bind_eq_some_iff] at h
    obtain ⟨k, h1, h2⟩ := h
    simp only [kidT] at h1
    split at h1
    · cases h1
    · simp only [spB, h1, List.length_cons, spB_len q (n + 1) k x s h2]

theorem spB_ver : ∀ (p : List Int) (n : Nat) (t s : Tree) (b : Blk), b ∈ spB p n t s → b.ver = 1
  | [], _, _, _, _, h => by simp [spB] at h
  | j :: q, n, .mk r tm ks, s, b, h => by
    rw [spB] at h
    split at h
    · rcases List.mem_cons.1 h with rfl | h
      · rfl
      · exact spB_ver q _ _ _ b h
    · simp at h

theorem spD_one (p : List Int) (n : Nat) (t s : Tree) : ∀ c ∈ (spD p n t s).cells, c.one = true := by
  cases p with
  | nil =>
    cases s with | mk r tm ks => rw [spD, treeD_mk]; intro c hc; simp only [D.cells, List.mem_cons, List.not_mem_nil, or_false] at hc; rcases hc with rfl | rfl | rfl <;> rfl
  | cons j q =>
    cases t with | mk r tm ks => rw [spD]; intro c hc; simp only [D.cells, List.mem_cons, List.not_mem_nil, or_false] at hc; rcases hc with rfl | rfl | rfl <;> rfl

theorem low_cells {n : Nat} {d : D} (h : Low n d) : ∀ c ∈ d.cells, Low n c := by
  intro c hc
  cases h
  case agg cs hh => exact hh c hc
  all_goals (simp only [D.cells, List.mem_singleton] at hc; subst hc; constructor; try assumption)

section
variable {X : Wx}
theorem WkL.nth {ds ds' : List D} (h : WkL X ds ds') : ∀ (j : Nat) (d' : D), ds'[j]? = some d' → Wk X (Abs.nth ds j) d' := by
  intro j d' hd
  have hj : j < ds.length := by rw [← h.len]; exact (List.getElem?_eq_some_iff.1 hd).1
  have := h.get j ds[j] d' (by simp [hj]) hd
  simpa [Abs.nth, List.getD, hj] using this

/-- the spine's root, moved -/
theorem wk_spD {p : List Int} {t0 i0 : Nat} {t x s : Tree} (hb : belowT t p = some x) (hp : p ≠ [] → X.g[i0]? = some (.old t0) ∧ (X.lc.getD t0 blk0).ver = 1 ∧ (X.lc'.getD i0 blk0).ver = 1) : Wk X (spD p (X.n + t0) t s) (spD p (X.n + i0) t s) := by
  cases p with
  | nil => exact .low _ (low_treeD _ s)
  | cons j q =>
    cases t with
    | mk r tm ks =>
      obtain ⟨h1, h2, h3⟩ := hp (by simp)
      exact wk_agg3 wk_i wk_i (wk_ref h1 rfl h2 h3 rfl)

theorem wkl_cells {d d' : D} (h : Wk X d d') (h3 : d.cells.length = 3) (h3' : d'.cells.length = 3) : WkL X d.cells d'.cells := by
  cases h
  case agg cs cs' hl h =>
    clear h3 h3'
    induction cs generalizing cs' with
    | nil => cases cs' with | nil => trivial | cons a l => simp at hl
    | cons c cs ih =>
      cases cs' with
      | nil => simp at hl
      | cons a l => exact y_wkl (h 0 c a rfl rfl) (ih l (by simpa using hl) fun i c' a' h1 h2 => h (i + 1) c' a' (by simpa using h1) (by simpa using h2))
  case low h => exact WkL.low (low_cells h)
  all_goals (simp [D.cells] at h3 h3')

theorem wkl_kidsC {ks : List Tree} {j : Nat} {d d' : List D} (h : WkL X d d') : WkL X (kidsC ks j d) (kidsC ks j d') :=
  WkL.app (WkL.app (WkL.low (low_cellsF treeD (low_treeD _) _)) h) (WkL.low (low_cellsF treeD (low_treeD _) _))

/-- the spine's arrays, moved -/
theorem blk_spB : ∀ (p : List Int) (t0 i0 : Nat) (t x s : Tree), belowT t p = some x →
    (∀ i b, (spB p (X.n + t0) t s)[i]? = some b → X.g[i0 + i]? = some (.old (t0 + i)) ∧ X.lc[t0 + i]? = some b) →
    (∀ i b, (spB p (X.n + i0) t s)[i]? = some b → X.lc'[i0 + i]? = some b) → BlkAll X ((List.range' t0 p.length).map .old) (spB p (X.n + i0) t s)
  | [], _, _, _, _, _, _, _, _ => trivial
  | j :: q, t0, i0, .mk r tm ks, x, s, hb, h1, h2 => by
    simp only [belowT, Option.bind_eq_some_iff] at hb
    obtain ⟨k, hk1, hk2⟩ := hb
    simp only [kidT] at hk1
    split at hk1
    · cases hk1
    simp only [spB, hk1] at h1 h2 ⊢
    rw [List.length_cons, List.range'_succ, List.map_cons]
    have a0 := h1 0 _ rfl
    have b0 := h2 0 _ rfl
    refine ⟨Nat.le_refl _, ⟨kidsC ks j.toNat (spD q (X.n + t0 + 1) k s).cells, ?_, ?_⟩, ?_⟩
    · have := a0.2
      simp only [Nat.add_zero] at this
      simp [List.getD, this]
    · refine wkl_kidsC (wkl_cells ?_ (spD_cells ..) (spD_cells ..))
      rw [Nat.add_assoc, Nat.add_assoc]
      refine wk_spD hk2 fun hq => ?_
      cases q with
      | nil => exact (hq rfl).elim
      | cons j2 q2 =>
        obtain ⟨r2, tm2, ks2, rfl⟩ : ∃ r t' k', k = .mk r t' k' := by cases k; exact ⟨_, _, _, rfl⟩
        have hk3 := hk2
        simp only [belowT, Option.bind_eq_some_iff] at hk3
        obtain ⟨k3, hk4, hk5⟩ := hk3
        simp only [kidT] at hk4
        split at hk4
        · cases hk4
        have a1 := h1 1
        have b1 := h2 1
        simp only [spB, hk4, List.getElem?_cons_succ, List.getElem?_cons_zero] at a1 b1
        have a1 := a1 _ rfl
        have b1 := b1 _ rfl
        refine ⟨a1.1, ?_, ?_⟩
        · simp [List.getD, a1.2]
        · simp [List.getD, b1]
    · refine blk_spB q (t0 + 1) (i0 + 1) k x s hk2 (fun i b hb => ?_) (fun i b hb => ?_)
      · have := h1 (i + 1) b (by simpa [Nat.add_assoc] using hb)
        rwa [show i0 + (i + 1) = i0 + 1 + i by omega, show t0 + (i + 1) = t0 + 1 + i by omega] at this
      · have := h2 (i + 1) b (by simpa [Nat.add_assoc] using hb)
        rwa [show i0 + (i + 1) = i0 + 1 + i by omega] at this
end

/-- what Clone hands back -/
theorem fin_spine {n : Nat} {sl : List D} {h : Heap} {lc : List Blk} {q : List Int} {r tm : Int} {ks : List Tree} {j : Nat} {k s x : Tree} (hl : LowH n h)
    (h6 : lc[6]? = some ⟨1, .cells (kidsC ks j (spD q (n + 26) k s).cells)⟩) (hlc : lc.drop 26 = spB q (n + 26) k s) (hk : ks[j]? = some k) (hj : j < ks.length) (hb : belowT k q = some x) :
    Fin (St.mk n sl h lc) (fun d h' x => h' = h ∧ x = ⟨1, .cells (kidsC ks j (spD q (n + 1) k s).cells)⟩ :: spB q (n + 1) k s ∧ d = .agg [.int .i64 r, .int .i64 tm, .ref 3 n 1 0 ks.length])
      [.agg [.int .i64 r, .int .i64 tm, .ref 3 (n + 6) 1 0 ks.length]] := by
  have hlen := spB_len q (n + 1) k x s hb
  have hlen2 := spB_len q (n + 26) k x s hb
  refine ⟨hl, .old 6 :: (List.range' 26 q.length).map .old, ⟨1, .cells (kidsC ks j (spD q (n + 1) k s).cells)⟩ :: spB q (n + 1) k s, .agg [.int .i64 r, .int .i64 tm, .ref 3 (n + 0) 1 0 ks.length], ?_, ?_, ?_, rfl, rfl, rfl⟩
  · have hblk : BlkAll ⟨n, lc, .old 6 :: (List.range' 26 q.length).map .old, ⟨1, .cells (kidsC ks j (spD q (n + 1) k s).cells)⟩ :: spB q (n + 1) k s⟩ (.old 6 :: (List.range' 26 q.length).map .old) (⟨1, .cells (kidsC ks j (spD q (n + 1) k s).cells)⟩ :: spB q (n + 1) k s) := by
      refine ⟨Nat.le_refl _, ⟨_, by simp only [List.getD, h6]; rfl, wkl_kidsC (wkl_cells (wk_spD (X := ⟨n, lc, _, _⟩) (t0 := 26) (i0 := 1) hb fun hq => ?_) (spD_cells ..) (spD_cells ..))⟩, blk_spB (X := ⟨n, lc, _, _⟩) q 26 1 k x s hb (fun i b hb => ⟨?_, ?_⟩) (fun i b hb => ?_)⟩
      · obtain ⟨b1, hb1⟩ : ∃ b, (spB q (n + 1) k s)[0]? = some b := by
          have : 0 < (spB q (n + 1) k s).length := by rw [hlen]; cases q with | nil => exact (hq rfl).elim | cons => simp
          exact ⟨_, List.getElem?_eq_getElem this⟩
        obtain ⟨b2, hb2⟩ : ∃ b, (spB q (n + 26) k s)[0]? = some b := by
          have : 0 < (spB q (n + 26) k s).length := by rw [hlen2]; cases q with | nil => exact (hq rfl).elim | cons => simp
          exact ⟨_, List.getElem?_eq_getElem this⟩
        have e2 : lc[26]? = some b2 := by rw [← hlc, List.getElem?_drop] at hb2; exact hb2
        refine ⟨?_, ?_, ?_⟩
        · cases q with
          | nil => exact (hq rfl).elim
          | cons a l => simp [List.range'_succ]
        · simp only [List.getD, e2, Option.getD_some]; exact spB_ver _ _ _ _ _ (List.mem_of_getElem? hb2)
        · simp only [List.getD, List.getElem?_cons_succ, hb1, Option.getD_some]; exact spB_ver _ _ _ _ _ (List.mem_of_getElem? hb1)
      · have hi : i < q.length := by rw [← hlen2]; exact (List.getElem?_eq_some_iff.1 hb).1
        show (_ :: List.map Src1.old (List.range' 26 q.length))[1 + i]? = _
        rw [show 1 + i = i + 1 by omega, List.getElem?_cons_succ, List.getElem?_map, List.getElem?_range' hi]
        simp
      · rw [← List.getElem?_drop, hlc]; exact hb
      · show (_ :: spB q (n + 1) k s)[1 + i]? = _
        rw [show 1 + i = i + 1 by omega, List.getElem?_cons_succ]; exact hb
    have hg := hblk.get
    refine ⟨hg.1, fun i x k h1 h2 => hg.2 i x k h1 h2, fun i j t h1 h2 => ?_⟩
    have key : ∀ (i t : Nat), (Src1.old 6 :: List.map Src1.old (List.range' 26 q.length))[i]? = some (.old t) → (i = 0 ∧ t = 6) ∨ (1 ≤ i ∧ t = 25 + i) := by
      intro i t h
      cases i with
      | zero => simp at h; omega
      | succ i =>
        rw [List.getElem?_cons_succ, List.getElem?_map] at h
        by_cases hi : i < q.length
        · rw [List.getElem?_range' hi] at h
          simp at h; omega
        · rw [List.getElem?_eq_none (by simpa using hi)] at h; cases h
    have k1 := key i t h1
    have k2 := key j t h2
    omega
  · exact wk_agg3 wk_i wk_i (wk_ref (i := 0) (t := 6) rfl rfl (by simp only [List.getD, h6]; rfl) rfl rfl)
  · intro b hb
    rcases List.mem_cons.1 hb with rfl | hb
    · exact Nat.le_refl _
    · exact Nat.le_of_eq (spB_ver _ _ _ _ _ hb).symm

set_option maxHeartbeats 4000000 in
theorem spn_Clone : ∀ (p : List Int) (t s : Tree), belowT t p = some s → full t * 40 ≤ 140737488355328 → Spn prog F_tree_Clone [treeD t] (fun n => spD p n t s) (fun n => spB p n t s)
  | [], t, s, hb, hf => by
    simp [belowT] at hb
    subst hb
    exact fun n h => (pure_CloneTree t hf n h).mono fun d h' x ⟨h1, h2, h3⟩ => ⟨h1, h2, h3⟩
  | jj :: q, .mk r tm ks, s, hb, hf => by
    intro n h
    simp only [belowT, Option.bind_eq_some_iff] at hb
    obtain ⟨k, h1, h2⟩ := hb
    simp only [kidT] at h1
    by_cases hc : r = -1 ∨ jj < 0
    · rw [if_pos hc] at h1; cases h1
    rw [if_neg hc] at h1
    obtain ⟨j, rfl⟩ : ∃ j : Nat, jj = j := ⟨jj.toNat, by omega⟩
    rw [Int.toNat_natCast] at h1
    have hj : j < ks.length := (List.getElem?_eq_some_iff.1 h1).1
    have hjk : ks[j] = k := (List.getElem?_eq_some_iff.1 h1).2
    rw [full_mk] at hf
    have hk := full_len ks
    have hfk := full_kid (List.mem_of_getElem? h1)
    have ihj := spn_Clone q k s h2 (by omega)
    have hlenB := fun N => spB_len q N k s s h2
    have hne : ks ≠ [] := by intro e; subst e; simp at hj
    simp only [spD, spB, Int.toNat_natCast, h1]
    rw [treeD_mk]
    refine K_tree_Clone.callsM q.length fun hl => ?_
    unfold C_tree_Clone
    simp -implicitDefEqProofs only [↓symPre, symPost, y_condP, y_condG, run, lver, minD, intsD, eqAll, tupD, splice, Nat.zero_add, Nat.add_zero, Nat.zero_mul, Nat.mul_one, Nat.one_mul, Nat.reduceAdd, Nat.reduceSub, Nat.reduceMul, Nat.reduceLT, Nat.reduceLeDiff, Nat.reduceEqDiff, true_and, and_true, true_implies, if_true, if_false, ite_true, reduceIte, ne_eq, not_false_eq_true, reduceCtorEq, forall_const, bne_self_eq_false, Bool.true_eq_false, Bool.false_eq_true, false_implies, and_self, implies_true, Int.toNat_zero, beq_self_eq_true, decide_true, decide_false, Bool.not_true, Bool.not_false, ↓y_call]
    refine ⟨by omega, by omega, (fresh_CloneT ks hne (by omega)).call (t := 6) (low_cellsF treeD (low_treeD 0) ks) rfl rfl ?_ rfl ?_⟩
    · simp only [List.length_cons]; omega
    simp -implicitDefEqProofs only [↓symPre, symPost, y_condP, y_condG, run, lver, minD, intsD, eqAll, tupD, splice, Nat.zero_add, Nat.add_zero, Nat.zero_mul, Nat.mul_one, Nat.one_mul, Nat.reduceAdd, Nat.reduceSub, Nat.reduceMul, Nat.reduceLT, Nat.reduceLeDiff, Nat.reduceEqDiff, true_and, and_true, true_implies, if_true, if_false, ite_true, reduceIte, ne_eq, not_false_eq_true, reduceCtorEq, forall_const, bne_self_eq_false, Bool.true_eq_false, Bool.false_eq_true, false_implies, and_self, implies_true, Int.toNat_zero, beq_self_eq_true, decide_true, decide_false, Bool.not_true, Bool.not_false, ↓y_call]
    have hc0 : ¬ r = -1 := fun h => hc (.inl h)
    refine aloop (fun p : Nat × List D × List Blk => St.mk n ([.top, .ptr (n + 1) 1 0, .ptr (n + 2) 1 0] ++ List.replicate 7 .top ++ [.int .i64 ks.length, .int .i64 p.1] ++ List.replicate 14 .top) h
        ([blk0, ⟨1, .cells [.int .i64 r, .int .i64 tm, .ref 3 (n + 6) 1 0 ks.length]⟩, ⟨1, .cells [.int .i64 0, .int .i64 0, .nils]⟩, blk0, blk0, blk0, ⟨1, .cells p.2.1⟩] ++ List.replicate 19 blk0 ++ p.2.2))
        (fun p => p.1 ≤ ks.length ∧ ((p.1 ≤ j ∧ p.2.1 = cellsF treeD ks ∧ p.2.2 = List.replicate q.length blk0) ∨ (j < p.1 ∧ p.2.1 = kidsC ks j (spD q (n + 26) k s).cells ∧ p.2.2 = spB q (n + 26) k s))) (fun p => ks.length - p.1)
        (0, cellsF treeD ks, List.replicate q.length blk0) ⟨Nat.zero_le _, .inl ⟨Nat.zero_le _, rfl, rfl⟩⟩ ?_ ?_
    · refine le_tops rfl rfl ?_
      simp only [List.replicate, List.cons_append, List.nil_append, topL_top, topL_same, topL_nil]
      exact ⟨.inr rfl, TopL.refl _⟩
    · rintro ⟨i, C, T⟩ ⟨hi, hI⟩
      simp only at hi hI
      by_cases hlt : i < ks.length
      · have f1 : (i : Int) < (ks.length : Int) := by omega
        have f0 : (0 : Int) ≤ (i : Int) := by omega
        have w1 : IntKind.i64.wrap ((i : Int) + 1) = ((i + 1 : Nat) : Int) := by rw [IntWalk.i64_in _ (by omega)]; omega
        have hm : ks[i] ∈ ks := List.getElem_mem hlt
        have ih := pure_CloneTree ks[i] (by have := full_kid (List.getElem_mem hlt); omega)
        obtain ⟨ar, at', ak, ea⟩ : ∃ r' t' k', ks[i] = .mk r' t' k' := by cases h : ks[i]; exact ⟨_, _, _, rfl⟩
        have hCl : C.length = ks.length * 3 := by
          rcases hI with ⟨_, rfl, _⟩ | ⟨_, rfl, _⟩
          · exact cellsF_len treeD treeD_cells ks
          · exact kidsC_len hj (spD_cells ..)
        have hll : i * 3 + 3 ≤ C.length := by omega
        have hld : (C.drop (i * 3)).take 3 = [.int .i64 ar, .int .i64 at', .lst (ak.map treeD)] := by
          rcases hI with ⟨_, rfl, _⟩ | ⟨_, rfl, _⟩
          · exact cellsT_ld ks i hlt ea
          · exact kidsC_hi hlt (by omega) (spD_cells ..) ea
        rw [ea, treeD_mk] at ih
        by_cases hij : i = j
        · obtain ⟨rfl, rfl⟩ : C = cellsF treeD ks ∧ T = List.replicate q.length blk0 := by
            rcases hI with ⟨_, a2, a3⟩ | ⟨a1, _⟩
            · exact ⟨a2, a3⟩
            · omega
          subst hij
          have hek : k = .mk ar at' ak := by rw [← hjk, ea]
          rw [hek, treeD_mk] at ihj
          rw [← hek] at ihj
          simp -implicitDefEqProofs only [↓symPre, symPost, y_condP, y_condG, run, lver, minD, intsD, eqAll, tupD, splice, Nat.zero_add, Nat.add_zero, Nat.zero_mul, Nat.mul_one, Nat.one_mul, Nat.reduceAdd, Nat.reduceSub, Nat.reduceMul, Nat.reduceLT, Nat.reduceLeDiff, Nat.reduceEqDiff, true_and, and_true, true_implies, if_true, if_false, ite_true, reduceIte, ne_eq, not_false_eq_true, reduceCtorEq, forall_const, bne_self_eq_false, Bool.true_eq_false, Bool.false_eq_true, false_implies, and_self, implies_true, Int.toNat_zero, beq_self_eq_true, decide_true, decide_false, Bool.not_true, Bool.not_false, ↓y_call, f1, decide_true]
          refine adrawq hmix [[], [], [], [], [], [], [], [], (List.range q.length).map (n + 26 + ·), [], [n + 6]] ?_
          simp (maxSteps := 400000) -implicitDefEqProofs only [↓symPre, symPost, y_condP, y_condG, run, lver, minD, intsD, eqAll, tupD, splice, Nat.zero_add, Nat.add_zero, Nat.zero_mul, Nat.mul_one, Nat.one_mul, Nat.reduceAdd, Nat.reduceSub, Nat.reduceMul, Nat.reduceLT, Nat.reduceLeDiff, Nat.reduceEqDiff, true_and, and_true, true_implies, if_true, if_false, ite_true, reduceIte, ne_eq, not_false_eq_true, reduceCtorEq, forall_const, bne_self_eq_false, Bool.true_eq_false, Bool.false_eq_true, false_implies, and_self, implies_true, Int.toNat_zero, beq_self_eq_true, decide_true, decide_false, Bool.not_true, Bool.not_false, ↓y_call, ↓drawPre, drawPost, isCall, isNew, isEff, Option.toList, or_false, false_or, cond_true, cond_false, not_true_eq_false, or_true, true_or, Nat.add_left_cancel_iff, Bool.false_eq_true, f1, f0, hlt, Int.toNat_natCast, hld, hll, List.getD_cons_succ, List.getD_cons_zero, hide_veilAt, veilAt]
          have hlB := hlenB (n + 26)
          refine ⟨_, _, ihj.draw (L := 26) (by rw [hlB]; rfl) (by simp only [List.length_cons]; omega) rfl, cov_chgAt rfl (by rw [hlB]; rfl) (fun p hp => by simp [y_hid]), ?_⟩
          rw [fin_chgAt' (L := 26) (by rw [hlB]; rfl) (by simp only [List.length_cons]; omega)]
          have hone := spD_one q (n + 26) k s
          have hcl := spD_cells q (n + 26) k s
          have hsp := fun e => @kidsC_splice ks i (treeD ks[i]).cells e hj (treeD_cells _)
          simp only [kidsC_self hj] at hsp
          simp (maxSteps := 400000) -implicitDefEqProofs only [↓symPre, symPost, y_condP, y_condG, run, lver, minD, intsD, eqAll, tupD, splice, Nat.zero_add, Nat.add_zero, Nat.zero_mul, Nat.mul_one, Nat.one_mul, Nat.reduceAdd, Nat.reduceSub, Nat.reduceMul, Nat.reduceLT, Nat.reduceLeDiff, Nat.reduceEqDiff, true_and, and_true, true_implies, if_true, if_false, ite_true, reduceIte, ne_eq, not_false_eq_true, reduceCtorEq, forall_const, bne_self_eq_false, Bool.true_eq_false, Bool.false_eq_true, false_implies, and_self, implies_true, Int.toNat_zero, beq_self_eq_true, decide_true, decide_false, Bool.not_true, Bool.not_false, ↓y_call, ↓drawPre, drawPost, isCall, isNew, isEff, Option.toList, or_false, false_or, cond_true, cond_false, not_true_eq_false, or_true, true_or, Nat.add_left_cancel_iff, Bool.false_eq_true, f1, f0, hlt, Int.toNat_natCast, hld, hll, w1, List.getD_cons_succ, List.getD_cons_zero, hcl, hone, List.take_succ_cons, List.take_zero]
          rw [hsp]
          refine ⟨hone, (i + 1, kidsC ks i (spD q (n + 26) k s).cells, spB q (n + 26) k s), ⟨by simp only; omega, .inr ⟨by simp only; omega, rfl, rfl⟩⟩, by simp only; omega, ?_⟩
          refine le_tops rfl rfl ?_
          simp only [List.replicate, List.cons_append, List.nil_append, topL_top, topL_same, topL_nil]
        · have hsp := splice_same C (i * 3) hld
          simp -implicitDefEqProofs only [↓symPre, symPost, y_condP, y_condG, run, lver, minD, intsD, eqAll, tupD, splice, Nat.zero_add, Nat.add_zero, Nat.zero_mul, Nat.mul_one, Nat.one_mul, Nat.reduceAdd, Nat.reduceSub, Nat.reduceMul, Nat.reduceLT, Nat.reduceLeDiff, Nat.reduceEqDiff, true_and, and_true, true_implies, if_true, if_false, ite_true, reduceIte, ne_eq, not_false_eq_true, reduceCtorEq, forall_const, bne_self_eq_false, Bool.true_eq_false, Bool.false_eq_true, false_implies, and_self, implies_true, Int.toNat_zero, beq_self_eq_true, decide_true, decide_false, Bool.not_true, Bool.not_false, ↓y_call, f1, decide_true]
          refine adrawq hmix [[], [], [], [], [], [], [], [], [], [], [n + 6]] ?_
          simp (maxSteps := 400000) -implicitDefEqProofs only [↓symPre, symPost, y_condP, y_condG, run, lver, minD, intsD, eqAll, tupD, splice, Nat.zero_add, Nat.add_zero, Nat.zero_mul, Nat.mul_one, Nat.one_mul, Nat.reduceAdd, Nat.reduceSub, Nat.reduceMul, Nat.reduceLT, Nat.reduceLeDiff, Nat.reduceEqDiff, true_and, and_true, true_implies, if_true, if_false, ite_true, reduceIte, ne_eq, not_false_eq_true, reduceCtorEq, forall_const, bne_self_eq_false, Bool.true_eq_false, Bool.false_eq_true, false_implies, and_self, implies_true, Int.toNat_zero, beq_self_eq_true, decide_true, decide_false, Bool.not_true, Bool.not_false, ↓y_call, ↓drawPre, drawPost, isCall, isNew, isEff, Option.toList, or_false, false_or, cond_true, cond_false, not_true_eq_false, or_true, true_or, Nat.add_left_cancel_iff, Bool.false_eq_true, f1, f0, hlt, Int.toNat_natCast, hld, hll, List.getD_cons_succ, List.getD_cons_zero]
          refine ⟨_, _, ih.draw rfl, (by simp [y_cov0, y_cov1, isNew, isEff, Option.toList]), ?_⟩
          simp (maxSteps := 400000) -implicitDefEqProofs only [↓symPre, symPost, y_condP, y_condG, run, lver, minD, intsD, eqAll, tupD, splice, Nat.zero_add, Nat.add_zero, Nat.zero_mul, Nat.mul_one, Nat.one_mul, Nat.reduceAdd, Nat.reduceSub, Nat.reduceMul, Nat.reduceLT, Nat.reduceLeDiff, Nat.reduceEqDiff, true_and, and_true, true_implies, if_true, if_false, ite_true, reduceIte, ne_eq, not_false_eq_true, reduceCtorEq, forall_const, bne_self_eq_false, Bool.true_eq_false, Bool.false_eq_true, false_implies, and_self, implies_true, Int.toNat_zero, beq_self_eq_true, decide_true, decide_false, Bool.not_true, Bool.not_false, ↓y_call, ↓drawPre, drawPost, isCall, isNew, isEff, Option.toList, or_false, false_or, cond_true, cond_false, not_true_eq_false, or_true, true_or, Nat.add_left_cancel_iff, Bool.false_eq_true, f1, f0, hlt, Int.toNat_natCast, hld, hll, w1, List.getD_cons_succ, List.getD_cons_zero]
          rw [hsp]
          refine ⟨by rintro c (rfl | rfl | rfl) <;> rfl, (i + 1, C, T), ⟨by simp only; omega, ?_⟩, by simp only; omega, ?_⟩
          · rcases hI with ⟨a1, a2, a3⟩ | ⟨a1, a2, a3⟩
            · exact .inl ⟨by simp only; omega, a2, a3⟩
            · exact .inr ⟨by simp only; omega, a2, a3⟩
          · refine le_tops rfl rfl ?_
            simp only [List.replicate, List.cons_append, List.nil_append, topL_top, topL_same, topL_nil]
      · have f1 : ¬ (i : Int) < (ks.length : Int) := by omega
        simp -implicitDefEqProofs only [↓symPre, symPost, y_condP, y_condG, run, lver, minD, intsD, eqAll, tupD, splice, Nat.zero_add, Nat.add_zero, Nat.zero_mul, Nat.mul_one, Nat.one_mul, Nat.reduceAdd, Nat.reduceSub, Nat.reduceMul, Nat.reduceLT, Nat.reduceLeDiff, Nat.reduceEqDiff, true_and, and_true, true_implies, if_true, if_false, ite_true, reduceIte, ne_eq, not_false_eq_true, reduceCtorEq, forall_const, bne_self_eq_false, Bool.true_eq_false, Bool.false_eq_true, false_implies, and_self, implies_true, Int.toNat_zero, beq_self_eq_true, decide_true, decide_false, Bool.not_true, Bool.not_false, ↓y_call, f1, decide_false]
        have hil : i = ks.length := by omega
        obtain ⟨_, rfl, rfl⟩ : j < i ∧ C = kidsC ks j (spD q (n + 26) k s).cells ∧ T = spB q (n + 26) k s := by
          rcases hI with ⟨a1, _⟩ | h
          · omega
          · exact h
        have hlB := hlenB (n + 1)
        exact fin_spine hl rfl rfl h1 hj h2

end Abs
end Go.Proofs.Ytfojedaccfenfaa
