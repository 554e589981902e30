/- EditUndone. -/
import Derived.Test.YtcdbikoonobodaaD7
namespace Go.Proofs.Ytcdbikoonobodaa
namespace Abs
set_option linter.unusedVariables false
set_option linter.unusedSimpArgs false
set_option maxRecDepth 20000

theorem chk_small {n : Nat} {e : Ed} (h : okE n e) (h2 : n ≤ 1000) (h3 : e.w.length ≤ 1000) : chk n e = 0 := by
  obtain ⟨q1, q2, q3⟩ := h
  rw [chk, if_pos ⟨q1, q2, q3⟩, if_neg (by unfold shiftE; omega)]

theorem undone (w : List Int) (e : Ed) (h : okE w.length e) :
    okE (applyL w e).length (backE w e) ∧ applyL (applyL w e) (backE w e) = w ∧ backE (applyL w e) (backE w e) = e ∧ (applyL w e).length ≤ w.length + e.w.length ∧ (backE w e).w.length ≤ w.length := by
  obtain ⟨f, t, nw⟩ := e
  obtain ⟨q1, q2, q3⟩ := h
  simp only at q1 q2 q3
  obtain ⟨f, rfl⟩ : ∃ m : Nat, f = m := ⟨f.toNat, by omega⟩
  obtain ⟨t, rfl⟩ : ∃ m : Nat, t = m := ⟨t.toNat, by omega⟩
  have hf : f ≤ w.length := by omega
  have ht : t ≤ w.length := by omega
  have hft : f ≤ t := by omega
  have e1 : ((f : Int) + (nw.length : Int)).toNat = f + nw.length := by omega
  have hL : (w.take f).length = f := by simp [hf]
  have hD1 : (w.take f ++ (nw ++ w.drop t)).drop (f + nw.length) = w.drop t := by
    rw [← List.append_assoc]
    exact List.drop_left' (by simp [hf])
  have hD2 : (w.take f ++ (nw ++ w.drop t)).drop f = nw ++ w.drop t := List.drop_left' hL
  have hT1 : (w.take f ++ (nw ++ w.drop t)).take f = w.take f := List.take_left' hL
  have hM : (w.drop f).take (t - f) ++ w.drop t = w.drop f := by
    have h1 := List.take_append_drop (t - f) (w.drop f)
    rw [List.drop_drop, show f + (t - f) = t by omega] at h1
    exact h1
  refine ⟨?_, ?_, ?_, ?_, ?_⟩
  · simp only [okE, backE, applyL, Int.toNat_natCast, List.length_append, hL, List.length_drop]
    omega
  · simp only [applyL, backE, Int.toNat_natCast, e1, hD1, hT1, hM]
    exact List.take_append_drop f w
  · simp only [applyL, backE, Int.toNat_natCast, e1, hD2]
    have h2 : (((w.drop f).take (t - f)).length : Int) = (t : Int) - f := by simp; omega
    rw [h2, show f + nw.length - f = nw.length by omega, List.take_left' rfl, show (f : Int) + ((t : Int) - f) = t by omega]
  · simp only [applyL, Int.toNat_natCast, List.length_append, hL, List.length_drop]
    omega
  · simp only [backE, Int.toNat_natCast, List.length_take, List.length_drop]
    omega

theorem pure_ApplyOk {w : List Int} {e : Ed} (hw : w.length * 8 ≤ 140737488355328) (hn : e.w.length * 8 ≤ 140737488355328) (h0 : chk w.length e = 0) : Pure prog F_edit_Apply [iD w, edD e] (.tup [iD (applyL w e), .int .i64 0]) := by
  have h := pure_Apply w e hw hn
  rwa [h0, appE, if_pos h0] at h
theorem wordM_len (terms : Int) (most : Nat) (l : List Int) : (wordM terms most l).length ≤ most := by
  simp [wordM]; omega

end Abs
end Go.Proofs.Ytcdbikoonobodaa
