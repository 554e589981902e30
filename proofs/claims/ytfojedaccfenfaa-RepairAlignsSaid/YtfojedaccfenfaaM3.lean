/- The reference's Weigh: the closure, the blocks it has captured. -/
import Derived.Test.YtfojedaccfenfaaM2
namespace Go.Proofs.Ytfojedaccfenfaa
namespace Abs
set_option linter.unusedVariables false
set_option linter.unusedSimpArgs false
set_option maxRecDepth 20000

def ofR (n : Nat) : D := ofD (n + 3) n (n + 2) (n + 1) (n + 4)
def ofB (q : Co) (w v : List Int) (n : Nat) : List Blk := [⟨1, .cells [iD w]⟩, ⟨1, .cells [iD v]⟩, ⟨1, .cells [.int .i64 q.a, .int .i64 q.b, .int .i64 q.c]⟩, ⟨1, .cells [.map (n + 5) 1]⟩, ⟨1, .cells [ofR n]⟩, ⟨1, .map (tabD q w v)⟩]
theorem ofB_len (q : Co) (w v : List Int) (n : Nat) : (ofB q w v n).length = 6 := rfl

theorem spn_Weigh (q : Co) (w v : List Int) : Spn prog F_parlref4_Weigh [iD w, iD v, coD q] ofR (ofB q w v) := by
  intro n h
  refine K_parlref4_Weigh.calls fun hl => ?_
  unfold C_parlref4_Weigh coD
  simp -implicitDefEqProofs only [↓symPre, symPost, y_condP, y_condG, run, lver, minD, intsD, eqAll, tupD, splice, Nat.zero_add, Nat.add_zero, Nat.zero_mul, Nat.mul_one, Nat.one_mul, Nat.reduceAdd, Nat.reduceSub, Nat.reduceMul, Nat.reduceLT, Nat.reduceLeDiff, Nat.reduceEqDiff, true_and, and_true, true_implies, if_true, if_false, ite_true, reduceIte, ne_eq, not_false_eq_true, reduceCtorEq, forall_const, bne_self_eq_false, Bool.true_eq_false, Bool.false_eq_true, false_implies, and_self, implies_true, Int.toNat_zero, beq_self_eq_true, decide_true, decide_false, Bool.not_true, Bool.not_false, ↓y_call]
  have hfn : Wk ⟨n, [blk0, blk0, blk0, ⟨1, .cells [iD w]⟩, ⟨1, .cells [iD v]⟩, ⟨1, .cells [.int .i64 q.a, .int .i64 q.b, .int .i64 q.c]⟩, blk0, ⟨1, .cells [.map (n + 9) 1]⟩, ⟨1, .cells [.fn F_parlref4_Weigh_1 [.ptr (n + 7) 1 0, .ptr (n + 3) 1 0, .ptr (n + 5) 1 0, .ptr (n + 4) 1 0, .ptr (n + 8) 1 0]]⟩, ⟨1, .map []⟩, blk0, blk0],
      [.old 3, .old 4, .old 5, .old 7, .old 8, .old 9], ofB q w v n⟩ (.fn F_parlref4_Weigh_1 [.ptr (n + 7) 1 0, .ptr (n + 3) 1 0, .ptr (n + 5) 1 0, .ptr (n + 4) 1 0, .ptr (n + 8) 1 0]) (ofR n) := by
    refine .fn _ _ _ rfl fun i c c' hc hc' => ?_
    rcases i with _ | _ | _ | _ | _ | i
    · simp at hc hc'; subst hc; subst hc'; exact .ptr 7 3 1 1 0 rfl rfl rfl
    · simp at hc hc'; subst hc; subst hc'; exact .ptr 3 0 1 1 0 rfl rfl rfl
    · simp at hc hc'; subst hc; subst hc'; exact .ptr 5 2 1 1 0 rfl rfl rfl
    · simp at hc hc'; subst hc; subst hc'; exact .ptr 4 1 1 1 0 rfl rfl rfl
    · simp at hc hc'; subst hc; subst hc'; exact .ptr 8 4 1 1 0 rfl rfl rfl
    · simp at hc
  have one : ∀ {X : Wx} {d d' : D}, Wk X d d' → ∀ (j : Nat) (e : D), [d'][j]? = some e → Wk X (nth [d] j) e := fun hw j e he => by
    rcases j with _ | j
    · simp at he; subst he; exact hw
    · simp at he
  refine ⟨hl, [.old 3, .old 4, .old 5, .old 7, .old 8, .old 9], ofB q w v n, ofR n, ⟨rfl, ?_, ?_⟩, hfn, ?_, rfl, rfl, rfl⟩
  · intro i x k h1 h2
    rcases i with _ | _ | _ | _ | _ | _ | i
    · simp [ofB] at h1 h2; subst h1; subst h2; exact ⟨Nat.le_refl _, _, rfl, Nat.le_refl _, one (.low _ (low_ints _ w))⟩
    · simp [ofB] at h1 h2; subst h1; subst h2; exact ⟨Nat.le_refl _, _, rfl, Nat.le_refl _, one (.low _ (low_ints _ v))⟩
    · simp [ofB] at h1 h2; subst h1; subst h2
      refine ⟨Nat.le_refl _, _, rfl, Nat.le_refl _, fun j e he => ?_⟩
      rcases j with _ | _ | _ | j <;> simp at he <;> subst he <;> exact .low _ (.int ..)
    · simp [ofB] at h1 h2; subst h1; subst h2; exact ⟨Nat.le_refl _, _, rfl, Nat.le_refl _, one (.map 9 5 1 1 rfl rfl rfl)⟩
    · simp [ofB] at h1 h2; subst h1; subst h2; exact ⟨Nat.le_refl _, _, rfl, Nat.le_refl _, one hfn⟩
    · simp [ofB] at h1 h2; subst h1; subst h2; exact ⟨Nat.le_refl _, _, rfl, tab_sc, fun e he => by cases he⟩
    · simp at h1
  · intro i j t h1 h2
    rcases i with _ | _ | _ | _ | _ | _ | i <;> rcases j with _ | _ | _ | _ | _ | _ | j <;> simp at h1 h2 <;> omega
  · intro k hk
    simp [ofB] at hk
    rcases hk with rfl | rfl | rfl | rfl | rfl | rfl <;> exact Nat.le_refl _

/-- the closure, wherever its blocks lie -/
theorem ofH_of {q : Co} {w v : List Int} {N L : Nat} {h : Heap} (hn : L + 6 ≤ N) (hb : ∀ i, i < 6 → h (L + i) = (ofB q w v L).getD i blk0) : OfH q w v h N (L + 3) L (L + 2) (L + 1) (L + 4) (L + 5) :=
  ⟨by omega, by omega, by omega, by omega, by omega, by omega, hb 3 (by omega), hb 0 (by omega), hb 2 (by omega), hb 1 (by omega), hb 4 (by omega), hb 5 (by omega)⟩

end Abs
end Go.Proofs.Ytfojedaccfenfaa
