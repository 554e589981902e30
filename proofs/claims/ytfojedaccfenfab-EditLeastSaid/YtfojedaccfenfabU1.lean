/- A round's code; a chain of code ahead of a range over a function. -/
import Derived.Test.YtfojedaccfenfabU0
namespace Go.Proofs.Ytfojedaccfenfab
namespace Abs
set_option linter.unusedVariables false

variable {P : Program} {s : St} {a : Act} {w : World} {M : Ctx}

theorem oper_round {o : Oper} {next : Act → World → Prop} {Q : Exit → Act → World → Prop} (r m : Nat) (hd : ∀ c, o.op ≠ .defer c) (h : o.wp P a w next Q) : o.wpIn (Fence.wide.inRound r) m P a w next Q := by
  refine ⟨fun _ _ => trivial, ?_⟩
  have e : (o.semAt (Fence.wide.inRound r).round a.eval) = execOp a.eval o := Oper.semAt_some r _ _ hd
  rw [e]
  unfold Oper.wp at h
  generalize (execOp a.eval o).run P w = res at h ⊢
  cases res with
  | ok x w' =>
    cases x with
    | enter f args =>
      simp only [Oper.upon] at h
      refine ⟨fun h => (by cases h), CallsIn.inRound r (callsIn_wide.2 (h.mono fun e w'' he => ?_))⟩
      cases e <;> exact he
    | row row args =>
      simp only [Oper.upon] at h
      refine ⟨fun h => (by cases h), fun c cs _ => ?_⟩
      obtain ⟨v, w'', hr, hs⟩ := h c cs
      exact ⟨v, w'', hr, stepsIn_wide.2 hs⟩
    | round l f t as b => exact (show False from h).elim
    | _ => exact h
  | halt x w' => cases x <;> exact h

theorem aops_round {r m : Nat} {ops : Array Oper} {K : St → Prop} {Q : Exit → Act → World → Prop} : ∀ (l : List Oper) (s : St) (a : Act) (w : World) (M : Ctx) (n0 : Nat) (w0 : World) (M0 : Ctx), s.n = n0 → SimA s a w M → Grows n0 w0 M0 w M →
    (∀ o ∈ l, o.guard = none ∧ ∀ c, o.op ≠ .defer c) → aops P (l.map (aoper P ops)) s K → (∀ s' a' w' M', s'.n = n0 → K s' → SimA s' a' w' M' → Grows n0 w0 M0 w' M' → Q .normal a' w') → wpListIn (Fence.wide.inRound r) m P ops Q l a w
  | [], s, a, w, M, n0, w0, M0, hn, hs, hg, hl, h, hQ => hQ s a w M hn h hs hg
  | o :: l, s, a, w, M, n0, w0, M0, hn, hs, hg, hl, h, hQ => by
    subst hn
    obtain ⟨hgd, hdf⟩ := hl o (by simp)
    have hag : (aoper P ops o).guard = .always := by simp [aoper, aguard, hgd]
    simp only [List.map_cons, aops, hag] at h
    unfold wpListIn
    rw [if_pos (by simp [Region.wanted, hgd])]
    refine oper_round r m hdf (Oper.wp_mono (fun a' w' ⟨d, δ, v, M', hK, hδ, ha, hst, hsim, hr⟩ => ?_) (stepO_sound (ops := ops) (Q := Q) hs h))
    subst ha
    exact aops_round l (s.fin o.dst d δ) _ w' M' s.n w0 M0 rfl (simA_put hs hst hr hδ hsim o.dst) (hg.trans (hst.grows _)) (fun o ho => hl o (by simp [ho])) hK hQ

/-- a region of a round's -/
theorem region_round {r m id : Nat} {ops : Array Oper} {K : St → Prop} {Q : Exit → Act → World → Prop} (hs : SimA s a w M) (hl : ∀ o ∈ ops.toList, o.guard = none ∧ ∀ c, o.op ≠ .defer c)
    (h : aops P (ops.toList.map (aoper P ops)) s K) (hQ : ∀ s' a' w' M', s'.n = s.n → K s' → SimA s' a' w' M' → Grows s.n w M w' M' → Q .normal a' w') : (Code.region id ops false).wpIn (Fence.wide.inRound r) m P Q a w :=
  wpIn_region_list (aops_round ops.toList s a w M s.n w M rfl hs (.refl ..) hl h hQ)

def seqs : List Code → Code → Code
  | [], t => t
  | c :: l, t => .seq c (seqs l t)
def seqAC : List AC → AC
  | [] => .skip
  | c :: l => .seq c (seqAC l)
theorem chain_sound {m : Nat} {Q : Exit → St → Prop} {R : Exit → Act → World → Prop} {T : Code} : ∀ (cs : List Code) (s : St) (a : Act) (w : World) (M : Ctx) (n0 : Nat) (w0 : World) (M0 : Ctx), s.n = n0 → SimA s a w M → Grows n0 w0 M0 w M →
    awp P (seqAC (cs.map (compC P))) Q s →
    (∀ s' a' w' M', s'.n = n0 → Q .normal s' → SimA s' a' w' M' → Grows n0 w0 M0 w' M' → T.wpIn Fence.wide m P R a' w') →
    (∀ e s' a' w' M', e ≠ .normal → s'.n = n0 → Q e s' → SimA s' a' w' M' → Grows n0 w0 M0 w' M' → R e a' w') → (seqs cs T).wpIn Fence.wide m P R a w
  | [], s, a, w, M, n0, w0, M0, hn, hs, hg, h, hT, hR => hT s a w M hn h hs hg
  | c :: l, s, a, w, M, n0, w0, M0, hn, hs, hg, h, hT, hR => by
    subst hn
    refine wpIn_seq (wpIn_wide.2 (wp_mono (awp_sound c _ s h a w M hs) fun e a' w' ⟨s', M', hn, q, hs', hg'⟩ => ?_))
    by_cases he : e = .normal
    · subst he
      exact chain_sound l s' a' w' M' s.n w0 M0 hn hs' (hg.trans hg') q hT hR
    · have hq : Q e s' := by cases e <;> first | exact q | exact (he rfl).elim
      have := hR e s' a' w' M' he hn hq hs' (hg.trans hg')
      cases e <;> first | exact this | exact (he rfl).elim

end Abs
end Go.Proofs.Ytfojedaccfenfab
