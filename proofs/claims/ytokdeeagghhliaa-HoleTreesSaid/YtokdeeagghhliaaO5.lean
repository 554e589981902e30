/- Weakening where a caller's block holds blocks of the callee's (printed by tools/genO5.py). -/
import Derived.Test.YtokdeeagghhliaaO4
namespace Go.Proofs.Ytokdeeagghhliaa
namespace Abs
set_option linter.unusedVariables false
set_option linter.unusedSimpArgs false
set_option maxRecDepth 20000

def LowB (n : Nat) (k : Blk) : Prop := match k.con with
  | .none => True
  | .veil => True
  | .cells cs => ∀ c ∈ cs, Low n c
  | .map es => ∀ e ∈ es, Low n e.2

/-- the caller's blocks: as they were, or their cells tell less -/
def LowW (X : Wx) (h h' : Heap) : Prop := ∀ b, b < X.n → (h' b = h b ∧ LowB X.n (h b)) ∨
  ∃ cs cs', (h b).con = .cells cs ∧ h' b = ⟨(h b).ver, .cells cs'⟩ ∧ cs'.length ≤ cs.length ∧ ∀ (j : Nat) (d' : D), cs'[j]? = some d' → Wk X (nth cs j) d'

section
variable {X : Wx} {w : World} {M : Ctx} {h h' : Heap}

theorem wk_simH (hX : WxOk X) (hlow : LowW X h h') (hs : Sim w M (mrg X.n h X.lc)) : Sim w (wkM X M) (mrg X.n h' X.lc') where
  ver b := by
    by_cases hb : b < X.n
    · rw [wkM_lt hb, hs.ver, mrg_lt hb, mrg_lt hb]
      rcases hlow b hb with ⟨e, _⟩ | ⟨cs, cs', e1, e2, _⟩
      · rw [e]
      · rw [e2]
    · have hb' : mrg X.n h' X.lc' b = X.lc'.getD (b - X.n) blk0 := by simp [mrg, hb]
      rw [hb']
      unfold wkM
      rw [if_neg hb]
      split
      · rfl
      · rfl
      · rfl
      · rename_i hg
        have : X.lc'[b - X.n]? = none := by
          rw [List.getElem?_eq_none_iff, hX.len]; exact List.getElem?_eq_none_iff.1 hg
        simp [this, hole, blk0]
  con b := by
    by_cases hb : b < X.n
    · rw [wkM_lt hb, mrg_lt hb]
      have hc := hs.con b
      rw [mrg_lt hb] at hc
      rcases hlow b hb with ⟨e, hl⟩ | ⟨cs, cs', e1, e2, e3, e4⟩
      rotate_left
      · rw [e1] at hc
        rw [e2]
        exact wk_con hX hs hc e3 e4
      rw [e]
      unfold LowB at hl
      cases hcon : (h b).con with
      | none => rw [hcon] at hc; exact hc
      | veil => rw [hcon] at hc; exact hc
      | cells cs =>
        rw [hcon] at hc hl
        exact wk_con hX hs hc (Nat.le_refl _) fun j d' hd' => by rw [nth_of hd']; exact .low _ (hl d' (List.mem_of_getElem? hd'))
      | map es =>
        rw [hcon] at hc hl
        obtain ⟨c, E, cl, h1, h2, h3, h4⟩ := hc
        exact ⟨c, E, cl, h1, h2, h3, fun i x e hx he => ⟨(h4 i x e hx he).1, wk_rep hX hs (.low _ (hl _ (List.mem_of_getElem? he))) (h4 i x e hx he).2⟩⟩
    · have hb' : mrg X.n h' X.lc' b = X.lc'.getD (b - X.n) blk0 := by simp [mrg, hb]
      rw [hb']
      have hk : ∀ x, X.g[b - X.n]? = some x → BlkWk X x (X.lc'.getD (b - X.n) blk0) := fun x hx => by
        have hlt : b - X.n < X.lc'.length := by rw [hX.len]; exact (List.getElem?_eq_some_iff.1 hx).1
        have := hX.blk _ x X.lc'[b - X.n] hx (by simp [hlt])
        simpa [List.getD, hlt] using this
      unfold wkM
      rw [if_neg hb]
      split
      · rename_i t hg
        have h1 := hk _ hg
        have hold := hs.con (X.n + t)
        rw [mrg_loc] at hold
        generalize X.lc'.getD (b - X.n) blk0 = k at h1
        obtain ⟨v, con⟩ := k
        cases con with
        | none => exact h1.elim
        | veil => exact h1.elim
        | cells cs' =>
          obtain ⟨_, cs, hcs, hle, hwk⟩ := h1
          rw [hcs] at hold
          exact wk_con hX hs hold hle hwk
        | map es' =>
          obtain ⟨_, es, hes, hsc, hwk⟩ := h1
          rw [hes] at hold
          obtain ⟨c, E, cl, h1, h2, h3, h4⟩ := hold
          refine ⟨c, E, cl, h1, h2, by omega, fun i x e' hx he' => ?_⟩
          have hi : i < es.length := by have := (List.getElem?_eq_some_iff.1 he').1; omega
          obtain ⟨q1, q2⟩ := hwk i es[i] e' (by simp [hi]) he'
          obtain ⟨q3, q4⟩ := h4 i x es[i] hx (by simp [hi])
          exact ⟨by rw [q1]; exact q3, wk_rep hX hs q2 q4⟩
      · rename_i hg
        have h1 := hk _ hg
        generalize X.lc'.getD (b - X.n) blk0 = k at h1
        obtain ⟨v, con⟩ := k
        cases con with
        | cells cs =>
          cases cs with
          | nil => exact .inl ⟨none, rfl, rfl⟩
          | cons c cs => exact h1.elim
        | none => exact h1.elim
        | veil => exact h1.elim
        | map es => exact h1.elim
      · rename_i hg
        have h1 := hk _ hg
        generalize X.lc'.getD (b - X.n) blk0 = k at h1
        obtain ⟨v, con⟩ := k
        cases con with
        | none => rfl
        | veil => exact h1.elim
        | cells cs => exact h1.elim
        | map es => exact h1.elim
      · rename_i hg
        have : X.lc'[b - X.n]? = none := by
          rw [List.getElem?_eq_none_iff, hX.len]; exact List.getElem?_eq_none_iff.1 hg
        simp only [List.getD, this, Option.getD_none, blk0, hole]
        rfl
  inj b b' c base base' h1 h2 := by
    obtain ⟨b0, e0, k0⟩ := wkM_loc h1
    obtain ⟨b1, e1, k1⟩ := wkM_loc h2
    have := hs.inj b0 b1 c base base' e0 e1
    rcases k0 with ⟨k0, rfl⟩ | ⟨t, k0, g0, rfl⟩ <;> rcases k1 with ⟨k1, rfl⟩ | ⟨t', k1, g1, rfl⟩
    · exact this
    · omega
    · omega
    · have ht : t = t' := by omega
      subst ht
      have := hX.inj _ _ t g0 g1
      omega
  opq b := by
    by_cases hb : b < X.n
    · rw [wkM_lt hb, mrg_lt hb, hs.opq, mrg_lt hb]
      rcases hlow b hb with ⟨e, _⟩ | ⟨cs, cs', e1, e2, _⟩
      · rw [e]
      · rw [e1, e2]; rfl
    · have hb' : mrg X.n h' X.lc' b = X.lc'.getD (b - X.n) blk0 := by simp [mrg, hb]
      rw [hb']
      unfold wkM
      rw [if_neg hb]
      have hk : ∀ x, X.g[b - X.n]? = some x → BlkWk X x (X.lc'.getD (b - X.n) blk0) := fun x hx => by
        have hlt : b - X.n < X.lc'.length := by rw [hX.len]; exact (List.getElem?_eq_some_iff.1 hx).1
        have := hX.blk _ x X.lc'[b - X.n] hx (by simp [hlt])
        simpa [List.getD, hlt] using this
      have hnv : ∀ x, X.g[b - X.n]? = some x → (X.lc'.getD (b - X.n) blk0).con.isOpq = false := fun x hx => by
        have h1 := hk x hx
        generalize X.lc'.getD (b - X.n) blk0 = k at h1
        obtain ⟨v, con⟩ := k
        cases con with
        | veil => cases x <;> exact h1.elim
        | _ => rfl
      split
      · rename_i t hg; exact (hnv _ hg).symm
      · rename_i hg; exact (hnv _ hg).symm
      · rename_i hg; exact (hnv _ hg).symm
      · rename_i hg
        have : X.lc'[b - X.n]? = none := by
          rw [List.getElem?_eq_none_iff, hX.len]; exact List.getElem?_eq_none_iff.1 hg
        simp only [List.getD, this, Option.getD_none, blk0, hole]
        rfl


end

theorem le_wkH {n : Nat} {sl sl' : List D} {h h' : Heap} {lc lc' : List Blk} (g : List Src1) (hlow : LowW ⟨n, lc, g, lc'⟩ h h') (hX : WxOk ⟨n, lc, g, lc'⟩) (hl : sl'.length = sl.length)
    (hwk : ∀ (t : Nat) (d d' : D), sl[t]? = some d → sl'[t]? = some d' → Wk ⟨n, lc, g, lc'⟩ d d') : Le ⟨n, sl, h, lc⟩ ⟨n, sl', h', lc'⟩ := by
  refine ⟨rfl, fun a w M hs => ⟨wkM ⟨n, lc, g, lc'⟩ M, ⟨hs.defers, by rw [hs.size, hl], fun t d' v hd' hv => ?_, wk_simH (X := ⟨n, lc, g, lc'⟩) hX hlow hs.sim⟩, wk_grows (X := ⟨n, lc, g, lc'⟩) hX hs.sim⟩⟩
  have ht : t < sl.length := by rw [← hl]; exact (List.getElem?_eq_some_iff.1 hd').1
  exact wk_rep hX hs.sim (hwk t _ d' (nth_get ht) hd') (hs.sl t _ v (nth_get ht) hv)

theorem le_toH {n : Nat} {sl : List D} {h : Heap} {lc : List Blk} {h' : Heap} {sl' : List D} {lc' : List Blk} (g : List Src1) (hlow : LowW ⟨n, lc, g, lc'⟩ h h') (hn : nodupB (olds g) = true) (hb : BlkAll ⟨n, lc, g, lc'⟩ g lc') (hw : WkL ⟨n, lc, g, lc'⟩ sl sl') :
    Le (St.mk n sl h lc) (St.mk n sl' h' lc') :=
  le_wkH g hlow ⟨hb.get.1, hb.get.2, olds_inj g hn⟩ hw.len hw.get

/-- one block of the caller's, told anew -/
theorem lowW_upd {X : Wx} {h0 : Heap} {b ver : Nat} {cs cs' : List D} (hl : LowH X.n h0) (hw : WkL X cs cs') : LowW X (upd h0 b ⟨ver, .cells cs⟩) (upd h0 b ⟨ver, .cells cs'⟩) := by
  intro b' hb'
  by_cases e : b' = b
  · subst e
    refine .inr ⟨cs, cs', by simp [upd], by simp [upd], Nat.le_of_eq hw.len, fun j d' hd' => ?_⟩
    have hj : j < cs.length := by rw [← hw.len]; exact (List.getElem?_eq_some_iff.1 hd').1
    exact hw.get j _ d' (nth_get hj) hd'
  · have e1 : ∀ k : Blk, upd h0 b k b' = h0 b' := fun k => by simp [upd, e]
    rw [e1, e1]
    exact .inl ⟨rfl, hl b' hb'⟩

end Abs
end Go.Proofs.Ytokdeeagghhliaa
