/- slices.Backward's closure, by the kit's walk. -/
import Derived.Test.YtfojedaccfenfabU1
import Derived.Test.YtfojedaccfenfabB
import Derived.RangeFuncSeq
import Derived.Shelf.Abstract
import Derived.WalkKit
import Derived.OwnWalkIn
import Derived.TacticsInMore
import Derived.LoopNIn
import Derived.LoopIn
namespace Go.Proofs.Ytfojedaccfenfab
namespace Abs
open Go.RowKit Go.Shelf
attribute [local go_sem] Oper.semAt_some
set_option linter.unusedVariables false

set_option maxRecDepth 100000 in
set_option maxHeartbeats 2000000 in
theorem it_back (m l Bs bo len cap b off : Nat) (c0 c1 c2 : Nat → Value) (J : Nat → World → Prop) (hlen : len * 24 ≤ 140737488355328)
    (hJ : ∀ k W, J k W → W.cell? ⟨Bs, bo, none⟩ = some (.slice (some ⟨b, off, none⟩) len cap) ∧ ∀ j, j < len → W.cell? ⟨b, off + j * 3, none⟩ = some (c0 j) ∧ W.cell? ⟨b, off + j * 3 + 1, none⟩ = some (c1 j) ∧ W.cell? ⟨b, off + j * 3 + 2, none⟩ = some (c2 j))
    (hY : ∀ k W, k < len → J k W → YieldAt Fence.wide m prog l #[.int .i64 ((len - 1 - k : Nat) : Int), Value.agg #[c0 (len - 1 - k), c1 (len - 1 - k), c2 (len - 1 - k)]] W fun e W' => e = .returned (.bool true) ∧ J (k + 1) W')
    (W : World) (h0 : J 0 W) :
    CallsIn Fence.wide (m + 1) prog F_slices_Backward_edit_Edit_edit_Edit_1 #[.func (.yield l) #[] #[], .pointer (some ⟨Bs, bo, none⟩)] W fun e W' => (∃ v, e = .returned v) ∧ J len W' := by
  refine callsIn_of_wp Try.func48 rfl trivial ?_ rfl
  simp only [Try.ntmps48, List.size_toArray, List.length_cons, List.length_nil, Nat.reduceAdd, Nat.reduceSub, Array.replicate_succ, Array.replicate_zero, List.push_toArray, List.append_toArray, List.nil_append, List.cons_append]
  have hb := (hJ 0 W h0).1
  gi_wp2
  gi_loopw [3] (fun i wr => ∃ k : Nat, k ≤ len ∧ i = .int .i64 ((len : Int) - 1 - k) ∧ J k wr) (fun i _ => (intOf i + 1).toNat)
  case atStart => exact ⟨0, Nat.zero_le _, by simp, h0⟩
  case round =>
    obtain ⟨k, hk, rfl, hJs⟩ := hrel
    have hb2 := (hJ k wr hJs).1
    by_cases hlt : k < len
    · obtain ⟨l0, l1, l2⟩ := (hJ k wr hJs).2 (len - 1 - k) (by omega)
      obtain ⟨fn, tmps, assign, body, hy, hR⟩ := hY k wr hlt hJs
      have e1 : ((len - 1 - k : Nat) : Int) = (len : Int) - 1 - k := by omega
      rw [e1] at hy
      gi_wp2
      refine hR.mono ?_
      rintro e W3 ⟨rfl, hJ3⟩
      gi_wp2
      go_roundw
      case rel => exact ⟨k + 1, by omega, by simp; omega, hJ3⟩
      case measure => simp [intOf]; omega
    · obtain rfl : k = len := by omega
      gi_wp2
      go_end0
      exact ⟨⟨_, rfl⟩, hJs⟩

end Abs
end Go.Proofs.Ytfojedaccfenfab
