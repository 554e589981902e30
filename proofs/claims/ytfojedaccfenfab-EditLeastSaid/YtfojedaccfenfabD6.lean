/- EditApplies. -/
import Derived.Test.YtfojedaccfenfabD5
namespace Go.Proofs.Ytfojedaccfenfab
namespace Abs
set_option linter.unusedVariables false
set_option linter.unusedSimpArgs false
set_option maxRecDepth 20000

theorem fz_loc {n : Nat} {h : Heap} {lc : List Blk} {Z : List Nat} {t ver len : Nat} {l : List Int} (hz : n + t ∈ Z) (hb : lc[t]? = some ⟨ver, .cells (l.map (.int .i64))⟩) (hl : len = l.length) :
    Fz (mrg n h lc) Z (.ref 1 (n + t) ver 0 len) (iD l) :=
  fz_int (cs := l.map (.int .i64)) hz (by rw [mrg_loc]; simp [List.getD, hb]) hl.symm (by simp [hl]) fun i x hx => by simp [nth, List.getD, hx]
theorem fz_agg3 {H : Heap} {Z : List Nat} {a b c a' b' c' : D} (h1 : Fz H Z a a') (h2 : Fz H Z b b') (h3 : Fz H Z c c') : Fz H Z (.agg [a, b, c]) (.agg [a', b', c']) :=
  .agg _ _ rfl fun i c c' hc hc' => by
    rcases i with _ | _ | _ | i
    · simp at hc hc'; subst hc; subst hc'; exact h1
    · simp at hc hc'; subst hc; subst hc'; exact h2
    · simp at hc hc'; subst hc; subst hc'; exact h3
    · simp at hc
/-- a live slice of the caller's, read -/
theorem wk_loc {n : Nat} {h : Heap} {lc : List Blk} {t ver len : Nat} {l : List Int} (hb : lc[t]? = some ⟨ver, .cells (l.map (.int .i64))⟩) (hl : len = l.length) :
    Wk (FX (n + lc.length) (mrg n h lc)) (.ref 1 (n + t) ver 0 len) (iD l) :=
  fz_ints (by have := (List.getElem?_eq_some_iff.1 hb).1; omega) (by rw [mrg_loc]; simp [List.getD, hb]) hl

def backE (w : List Int) (e : Ed) : Ed := ⟨e.f, e.f + e.w.length, (w.drop e.f.toNat).take (e.t.toNat - e.f.toNat)⟩

end Abs
end Go.Proofs.Ytfojedaccfenfab
