/- The least words of the nonterminals are the least. Plain. -/
import Derived.Test.YtokdeeagghhliaaO22
namespace Go.Proofs.Ytokdeeagghhliaa
namespace Abs
set_option linter.unusedVariables false
set_option linter.unusedSimpArgs false
set_option maxRecDepth 20000

def baseF (x : Sy) (i j : Nat) (w : List Int) : Prop := i = j ∧ x.t = true ∧ w = [x.n]
def freeD (rs : List Ru) (x : Sy) (w : List Int) : Prop := derD baseF rs x 0 0 w
theorem freeD_t {rs : List Ru} {x : Sy} (h : x.t = true) : freeD rs x [x.n] := derD_base ⟨rfl, h, rfl⟩

structure AttW (rs : List Ru) (N : Nat) (ws : List Wd) : Prop where
  len : ws.length = N
  att : ∀ a, a < N → Att (freeD rs ⟨false, a⟩) (ws.getD a wd0)

section
variable {rs : List Ru} {B N : Nat} {ws : List Wd}
theorem AttW.free (h : AttW rs N ws) {x : Sy} (hx : symOk B N x) : Att (freeD rs x) (freeW ws x) := by
  unfold freeW
  cases ht : x.t with
  | true => rw [if_pos rfl]; exact .inr ⟨[x.n], freeD_t ht, (valS_one _).symm⟩
  | false =>
    rw [if_neg (by simp)]
    have h1 := hx.1
    have h2 := hx.2.2 ht
    obtain ⟨xt, xn⟩ := x
    simp only at h1 h2 ht ⊢
    subst ht
    have := h.att xn.toNat (by omega)
    rwa [show ((xn.toNat : Nat) : Int) = xn by omega] at this
theorem AttW.seq (h : AttW rs N ws) : ∀ {xs pre : List Sy} {v : Wd}, (∀ x ∈ xs, symOk B N x) → Att (seqD (derD baseF rs) pre 0 0) v → Att (seqD (derD baseF rs) (pre ++ xs) 0 0) (seqW ws v xs)
  | [], pre, v, _, hv => by simpa [seqW] using hv
  | x :: xs, pre, v, hx, hv => by
    rw [seqW]
    have e : pre ++ x :: xs = (pre ++ [x]) ++ xs := by simp
    rw [e]
    refine AttW.seq h (fun y hy => hx y (by simp [hy])) ?_
    split
    · rename_i ho
      obtain ⟨u, hu, hue⟩ := hv.ok ho.1
      obtain ⟨f, hf, hfe⟩ := (h.free (hx x (by simp))).ok ho.2
      rw [hue, hfe, joinW_val]
      exact .inr ⟨_, seqD_app hu hf, rfl⟩
    · exact .inl rfl
theorem AttW.step (h : AttW rs N ws) {r : Ru} (hr : r ∈ rs) (hx : ∀ x ∈ r.right, symOk B N x) (hl : 0 ≤ r.left ∧ r.left < N) : AttW rs N (stepW ws r) := by
  unfold stepW
  split
  · refine ⟨by rw [List.length_set]; exact h.len, fun a ha => ?_⟩
    rw [getD_set _ _ _ _ _ (by have := h.len; omega)]
    split
    · rename_i e
      have := h.seq (pre := []) (v := wd1) hx (.inr ⟨[], ⟨rfl, rfl⟩, rfl⟩)
      refine Att.mono this fun w hw => ?_
      have h2 := derD_rule hr (by simpa using hw)
      rw [e, show ((r.left.toNat : Nat) : Int) = r.left by omega]
      exact h2
    · exact h.att a ha
  · exact h
theorem AttW.pass (hg : ∀ r ∈ rs, (∀ x ∈ r.right, symOk B N x) ∧ 0 ≤ r.left ∧ r.left < N) : ∀ (rs' : List Ru) (ws : List Wd), (∀ r ∈ rs', r ∈ rs) → AttW rs N ws → AttW rs N (passW ws rs')
  | [], ws, _, h => h
  | r :: rs', ws, hr, h => AttW.pass hg rs' (stepW ws r) (fun r' h' => hr r' (by simp [h'])) (h.step (hr r (by simp)) (hg r (hr r (by simp))).1 (hg r (hr r (by simp))).2)
theorem AttW.run (hg : ∀ r ∈ rs, (∀ x ∈ r.right, symOk B N x) ∧ 0 ≤ r.left ∧ r.left < N) : ∀ (k : Nat) (ws : List Wd), AttW rs N ws → AttW rs N (runW rs k ws)
  | 0, ws, h => h
  | k + 1, ws, h => by
    rw [runW]
    split
    · exact AttW.run hg k _ (AttW.pass hg rs ws (fun _ h => h) h)
    · exact AttW.pass hg rs ws (fun _ h => h) h
end

/-! ### the end of the passes -/
theorem pch_false : ∀ {rs : List Ru} {ws : List Wd}, pchW ws rs = false → passW ws rs = ws ∧ ∀ r ∈ rs, chgW ws r = false
  | [], ws, _ => ⟨rfl, fun r hr => by cases hr⟩
  | r :: rs, ws, h => by
    rw [pchW, Bool.or_eq_false_iff] at h
    have e : stepW ws r = ws := by unfold stepW; rw [h.1, if_neg (by simp)]
    rw [e] at h
    obtain ⟨h1, h2⟩ := pch_false h.2
    refine ⟨?_, fun r' hr => ?_⟩
    · show passW (stepW ws r) rs = ws
      rw [e, h1]
    · rcases List.mem_cons.1 hr with rfl | hr
      · exact h.1
      · exact h2 r' hr
theorem pass_less {B N : Nat} (hB : 1 ≤ B) : ∀ {rs : List Ru} {ws : List Wd}, (∀ r ∈ rs, r.right.length ≤ 4 ∧ (∀ x ∈ r.right, symOk B N x) ∧ 0 ≤ r.left ∧ r.left < N) → GoodW B N ws →
    GoodW B N (passW ws rs) ∧ sumMu B (passW ws rs) ≤ sumMu B ws ∧ (pchW ws rs = true → sumMu B (passW ws rs) < sumMu B ws)
  | [], ws, _, h => ⟨h, Nat.le_refl _, fun h => by cases h⟩
  | r :: rs, ws, hg, h => by
    obtain ⟨g1, g2, g3⟩ := hg r (by simp)
    obtain ⟨s1, s2, s3⟩ := h.step hB g1 g2 g3
    obtain ⟨p1, p2, p3⟩ := pass_less hB (rs := rs) (fun r' hr => hg r' (by simp [hr])) s1
    have e : passW ws (r :: rs) = passW (stepW ws r) rs := rfl
    rw [e, pchW]
    cases hc : chgW ws r with
    | true =>
      have := s2 hc
      exact ⟨p1, by omega, fun _ => by omega⟩
    | false =>
      rw [s3 hc] at p1 p2 p3 ⊢
      exact ⟨p1, p2, fun h => p3 (by simpa using h)⟩
theorem run_end {B N : Nat} (hB : 1 ≤ B) {rs : List Ru} (hg : ∀ r ∈ rs, r.right.length ≤ 4 ∧ (∀ x ∈ r.right, symOk B N x) ∧ 0 ≤ r.left ∧ r.left < N) : ∀ (k : Nat) (ws : List Wd), GoodW B N ws → sumMu B ws < k → pchW (runW rs k ws) rs = false
  | 0, ws, _, h => by omega
  | k + 1, ws, hw, h => by
    obtain ⟨p1, p2, p3⟩ := pass_less hB hg hw
    rw [runW]
    split
    · rename_i hc
      exact run_end hB hg k _ p1 (by have := p3 hc; omega)
    · rename_i hc
      have hc : pchW ws rs = false := by simpa using hc
      rw [(pch_false hc).1]; exact hc

section
variable {rs : List Ru} {B N : Nat} {F : List Wd}
theorem seq_bel (hA : AttW rs N F) (hg : ∀ r ∈ rs, (∀ x ∈ r.right, symOk B N x) ∧ 0 ≤ r.left ∧ r.left < N) (hF : ∀ r ∈ rs, chgW F r = false) {S : Sy → Nat → Nat → List Int → Prop} : ∀ {xs : List Sy} {i j : Nat} {v : Wd} {u w : List Int}, (∀ x ∈ xs, ∀ i j w, S x i j w → i = j ∧ Bel (freeW F x) w) → Bel v u → seqD S xs i j w → i = j ∧ Bel (seqW F v xs) (u ++ w)
  | [], i, j, v, u, w, _, hv, ⟨h1, h2⟩ => by subst h2; rw [List.append_nil]; exact ⟨h1, hv⟩
  | x :: xs, i, j, v, u, w, hS, hv, ⟨m, a, b, h1, h2, h3⟩ => by
    obtain ⟨e, hx⟩ := hS x (by simp) i m a h2
    subst e
    rw [seqW, if_pos ⟨hv.ok, hx.ok⟩, h1, ← List.append_assoc]
    obtain ⟨v', rfl, hv'⟩ := hv
    obtain ⟨x', hxe, hx'⟩ := hx
    refine seq_bel hA hg hF (fun y hy => hS y (by simp [hy])) ?_ h3
    rw [hxe, joinW_val]
    exact ⟨_, rfl, leS_app hv' hx'⟩
theorem free_bel (hA : AttW rs N F) (hg : ∀ r ∈ rs, (∀ x ∈ r.right, symOk B N x) ∧ 0 ≤ r.left ∧ r.left < N) (hF : ∀ r ∈ rs, chgW F r = false) : ∀ (k : Nat) {x : Sy} {i j : Nat} {w : List Int}, symOk B N x → genD baseF rs k x i j w → i = j ∧ Bel (freeW F x) w := by
  have base : ∀ {x : Sy} {i j : Nat} {w : List Int}, baseF x i j w → i = j ∧ Bel (freeW F x) w := fun {x i j w} ⟨h1, h2, h3⟩ => by
    refine ⟨h1, ?_⟩
    unfold freeW
    rw [if_pos h2, h3]
    exact ⟨[x.n], (valS_one _).symm, leS_refl _⟩
  intro k
  induction k with
  | zero => intro x i j w _ h; exact base h
  | succ k ih =>
    intro x i j w hx h
    rcases h with h | ⟨r, hr, hxr, hs⟩
    · exact base h
    · subst hxr
      obtain ⟨g1, g2, g3⟩ := hg r hr
      have hb : Bel wd1 [] := ⟨[], rfl, leS_refl _⟩
      obtain ⟨e, h1⟩ := seq_bel hA hg hF (v := wd1) (u := []) (fun x hx i j w h => ih (g1 x hx) h) hb hs
      refine ⟨e, ?_⟩
      have e2 : freeW F ⟨false, r.left⟩ = F.getD r.left.toNat wd0 := rfl
      rw [e2]
      have ha := hA.seq (pre := []) (v := wd1) g1 (.inr ⟨[], ⟨rfl, rfl⟩, rfl⟩)
      have hc := hA.att r.left.toNat (by omega)
      have := better1_bel ha hc (.inr h1)
      have hch : shorterW (seqW F wd1 r.right) wd1 (F.getD r.left.toNat wd0) = false := hF r hr
      rwa [hch, if_neg (by simp)] at this
end

/-- the least words of a grammar -/
theorem leastW_att {g : Gr} (h : okG g) : AttW g.rules g.nons.toNat (leastW g) := by
  refine AttW.run (B := 8) (fun r hr => (h.rule r hr).2) _ _ ⟨by simp [initW], fun a ha => ?_⟩
  refine .inl ?_
  simp [initW, List.getD, ha]
theorem leastW_end {g : Gr} (h : okG g) : ∀ r ∈ g.rules, chgW (leastW g) r = false :=
  (pch_false (run_end (B := 8) (by omega) h.rule _ _ (initW_good h) (Nat.lt_succ_self _))).2
theorem least_att {g : Gr} (h : okG g) {x : Sy} (hx : symOk 8 g.nons.toNat x) : Att (freeD g.rules x) (freeW (leastW g) x) := (leastW_att h).free hx
theorem least_bel {g : Gr} (h : okG g) {x : Sy} (hx : symOk 8 g.nons.toNat x) {w : List Int} (hw : freeD g.rules x w) : Bel (freeW (leastW g) x) w := by
  obtain ⟨k, hk⟩ := hw
  exact (free_bel (leastW_att h) (fun r hr => (h.rule r hr).2) (leastW_end h) k hx hk).2

end Abs
end Go.Proofs.Ytokdeeagghhliaa
