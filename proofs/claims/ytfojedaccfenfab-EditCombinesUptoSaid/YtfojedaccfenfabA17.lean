/- Regions whose order is left open: an operation sees nothing of what the operations beside it change. -/
import Derived.Test.YtfojedaccfenfabA15
import Derived.Orders
namespace Go.Proofs.Ytfojedaccfenfab
namespace Abs
set_option linter.unusedVariables false

def opds : AOp → List Opd
  | .mov x => [x]
  | .pick c a b => [c, a, b]
  | .alloc _ => []
  | .box x => [x]
  | .build _ ps => ps.map (·.2.2)
  | .buildSlice _ _ _ ps => ps.map (·.2.2)
  | .load _ _ a => [a]
  | .store _ a x => [a, x]
  | .bin _ x y => [x, y]
  | .eqb _ x y => [x, y]
  | .nileq _ _ x => [x]
  | .eqs _ _ x y => [x, y]
  | .un _ x => [x]
  | .conv _ x => [x]
  | .nilck x => [x]
  | .mkfn _ cs => cs
  | .mkslice _ _ _ l c => [l, c]
  | .slice _ x lo hi => x :: (lo.toList ++ hi.toList)
  | .slicez x => [x]
  | .slicea _ _ x lo hi => x :: (lo.toList ++ hi.toList)
  | .fieldAddr _ x => [x]
  | .field _ _ _ x => [x]
  | .idxS _ x i => [x, i]
  | .idxA _ _ x i => [x, i]
  | .idx _ _ _ x i => [x, i]
  | .len x => [x]
  | .slen x => [x]
  | .append _ _ x y => [x, y]
  | .appendz _ _ _ x n => [x, n]
  | .capz x => [x]
  | .minmax _ xs => xs
  | .extract x _ => [x]
  | .call _ args => args
  | .callv x args => x :: args
  | .bad => []

/-- V knows of s all that it says, but for what it hides -/
structure Sub (s V : St) (xs : List Opd) : Prop where
  n : V.n = s.n
  len : V.lc.length = s.lc.length
  val : ∀ x ∈ xs, V.val x = s.val x
  blk : ∀ b, (V.blk b).con = .veil ∨ V.blk b = s.blk b

variable {P : Program} {s V : St}

theorem at_sub {xs : List Opd} (h : Sub s V xs) {b ver : Nat} {K K' : List D → Prop} (hk : ∀ cs, K cs → K' cs) (ha : V.at b ver K) : s.at b ver K' := by
  unfold St.at at ha ⊢
  rcases h.blk b with h1 | h1
  · generalize V.blk b = x at ha h1
    cases x with
    | mk v c => simp only at h1; subst h1; exact ha.elim
  · rw [h1] at ha
    generalize s.blk b = x at ha
    cases x with
    | mk v c => cases c <;> first | exact ha.elim | exact ⟨ha.1, hk _ ha.2⟩

theorem new_sub {xs : List Opd} (h : Sub s V xs) {dst : Option Nat} {con : Con} {K K' : Nat → Nat → Chg → Prop} (hk : ∀ a b c, K a b c → K' a b c) (ha : V.new dst con K) : s.new dst con K' := by
  unfold St.new at ha ⊢
  cases dst with
  | none => exact ha
  | some t =>
    simp only at ha ⊢
    obtain ⟨h1, h2, h3⟩ := ha
    have hb := h.blk (V.n + t)
    have e1 : V.blk (V.n + t) = V.lc.getD t blk0 := mrg_loc ..
    have e2 : s.blk (V.n + t) = s.lc.getD t blk0 := by rw [h.n]; exact mrg_loc ..
    rw [e1, e2] at hb
    rcases hb with hb | hb
    · rw [hb] at h2; cases h2
    · unfold lver at h3 ⊢
      rw [hb] at h2 h3
      rw [h.n] at h3
      exact ⟨by rw [← h.len]; exact h1, h2, hk _ _ _ h3⟩

theorem srcOf_sub {xs : List Opd} (h : Sub s V xs) {sz : Nat} {d : D} {K K' : Nat → List D → Prop} (hk : ∀ a b, K a b → K' a b) (ha : srcOf V sz d K) : srcOf s sz d K' := by
  unfold srcOf at ha ⊢
  split at ha
  · exact hk _ _ ha
  · exact hk _ _ ha
  · exact ⟨ha.1, hk _ _ ha.2⟩
  · exact ⟨ha.1, at_sub h (fun cs hc => ⟨hc.1, hk _ _ hc.2⟩) ha.2⟩
  · exact ha.elim

theorem fillD_mono {K K' : List D → Prop} (hk : ∀ cs, K cs → K' cs) : ∀ (l : List (Nat × Nat × D)) (cs : List D), fillD cs l K → fillD cs l K'
  | [], cs, h => hk _ h
  | (_, _, _) :: l, cs, h => ⟨h.1, h.2.1, h.2.2.1, fillD_mono hk l _ h.2.2.2⟩

theorem run_sub {dst : Option Nat} {K : D → Chg → Prop} {op : AOp} (h : Sub s V (opds op)) (hr : run V dst K op) : run s dst K op := by
  have hv := h.val
  cases op with
  | build z ps =>
    simp only [run] at hr ⊢
    have : (ps.map fun p => (p.1, p.2.1, V.val p.2.2)) = ps.map fun p => (p.1, p.2.1, s.val p.2.2) := List.map_congr_left fun p hp => by
      rw [hv p.2.2 (List.mem_map.2 ⟨p, hp, rfl⟩)]
    rw [← this]; exact hr
  | buildSlice sz z len ps =>
    simp only [run] at hr ⊢
    have : (ps.map fun p => (p.1, p.2.1, V.val p.2.2)) = ps.map fun p => (p.1, p.2.1, s.val p.2.2) := List.map_congr_left fun p hp => by
      rw [hv p.2.2 (List.mem_map.2 ⟨p, hp, rfl⟩)]
    rw [← this]
    exact fillD_mono (fun cs hr => new_sub h (fun _ _ _ h => h) hr) _ _ hr
  | mkfn f cs =>
    simp only [run] at hr ⊢
    rw [← List.map_congr_left (l := cs) hv]; exact hr
  | minmax mx xs =>
    simp only [run] at hr ⊢
    rw [← List.map_congr_left (l := xs) hv]; exact hr
  | alloc z => simp only [run] at hr ⊢; exact new_sub h (fun _ _ _ h => h) hr
  | bad => simp only [run] at hr
  | call f args => simp only [run] at hr
  | callv x args => simp only [run] at hr
  | slice sz x lo hi =>
    simp only [opds] at hv
    have h1 : lo.map V.val = lo.map s.val := by cases lo <;> simp at hv ⊢; exact hv.2.1
    have h2 : hi.map V.val = hi.map s.val := by cases hi <;> cases lo <;> simp at hv ⊢ <;> first | exact hv.2 | exact hv.2.2
    simp only [run] at hr ⊢
    rw [hv x (by simp), h1, h2] at hr
    split at hr
    · exact hr
    · exact ⟨hr.1, at_sub h (fun _ h => h) hr.2⟩
    · exact hr
    · exact hr
    · exact hr.elim
  | slicea n sz x lo hi =>
    simp only [opds] at hv
    have h1 : lo.map V.val = lo.map s.val := by cases lo <;> simp at hv ⊢; exact hv.2.1
    have h2 : hi.map V.val = hi.map s.val := by cases hi <;> cases lo <;> simp at hv ⊢ <;> first | exact hv.2 | exact hv.2.2
    simp only [run] at hr ⊢
    rw [hv x (by simp), h1, h2] at hr
    split at hr
    · exact at_sub h (fun _ h => h) hr
    · exact hr.elim
  | _ =>
    simp only [opds, List.mem_cons, List.not_mem_nil, or_false, forall_eq_or_imp, forall_eq] at hv
    simp only [run] at hr ⊢
    first
      | exact hr
      | (simp only [hv] at hr
         first
           | exact hr
           | exact new_sub h (fun _ _ _ h => h) hr
           | exact ⟨hr.1, new_sub h (fun _ _ _ h => h) hr.2⟩
           | (refine srcOf_sub h (fun m news h1 => ⟨h1.1, ?_⟩) hr
              have h2 := h1.2
              split at h2
              · exact ⟨h2.1, new_sub h (fun _ _ _ h => h) h2.2⟩
              · exact ⟨h2.1, new_sub h (fun _ _ _ h => h) h2.2⟩
              · exact ⟨h2.1, at_sub h (fun _ h => h) h2.2⟩
              · exact h2.elim)
           | (split at hr <;> first
               | exact hr
               | exact hr.elim
               | exact at_sub h (fun _ h => h) hr
               | exact ⟨hr.1, at_sub h (fun _ h => h) hr.2⟩
               | exact ⟨hr.1, hr.2.1, new_sub h (fun _ _ _ h => h) hr.2.2⟩
               | exact ⟨hr.1, hr.2.1, at_sub h (fun _ h => h) hr.2.2⟩
               | exact ⟨hr.1, hr.2.1, hr.2.2.1, at_sub h (fun _ h => h) hr.2.2.2⟩
               | exact ⟨hr.1, hr.2.1, hr.2.2.1, hr.2.2.2.1, new_sub h (fun _ _ _ h => h) hr.2.2.2.2⟩))

/-- an operation that knows only what V says -/
def stepV (P : Program) (o : AOper) (V : St) (K : D → Chg → Prop) : Prop :=
  match o.op with
  | .call f args => ∀ s, Sub s V [] → ACalls P f (args.map V.val) (V.n + V.lc.length) s.hp (callK s o.dst K)
  | .callv x args => match V.val x with
    | .fn f caps => ∀ s, Sub s V [] → ACalls P f (args.map V.val ++ caps) (V.n + V.lc.length) s.hp (callK s o.dst K)
    | _ => False
  | op => run V o.dst K op

theorem stepV_sub {o : AOper} {K : D → Chg → Prop} (h : Sub s V (opds o.op)) (hr : stepV P o V K) : stepO P o s K := by
  have h0 : Sub s V [] := ⟨h.n, h.len, by simp, h.blk⟩
  unfold stepV at hr
  unfold stepO
  cases hop : o.op <;> rw [hop] at h hr
  case call f args =>
    have := hr s h0
    rw [h.n, h.len, List.map_congr_left (l := args) h.val] at this
    exact this
  case callv x args =>
    have h1 := h.val x (by simp [opds])
    have h2 : args.map V.val = args.map s.val := List.map_congr_left fun y hy => h.val y (by simp [opds, hy])
    simp only at hr ⊢
    rw [h1] at hr
    generalize s.val x = y at hr ⊢
    cases y <;> first | exact hr.elim | skip
    have := hr s h0
    rw [h.n, h.len, h2] at this
    exact this
  all_goals exact run_sub h hr

/-! ### what is hidden -/
def St.hide (s : St) (bs : List Nat) : St := s.app (bs.map fun b => (b, ⟨0, .veil⟩))

theorem blk_app1 (s : St) (p : Nat × Blk) (b : Nat) : (s.app1 p).blk b = if p.1 = b ∧ b < s.n + s.lc.length then p.2 else s.blk b := by
  unfold St.app1
  split
  · rename_i h
    unfold St.blk
    simp only
    rw [← mrg_upd_lt p.2 h]
    unfold upd
    by_cases e : p.1 = b
    · subst e; simp [show p.1 < s.n + s.lc.length by omega]
    · simp [e, Ne.symm e]
  · rename_i h
    unfold St.blk
    simp only
    by_cases hl : p.1 - s.n < s.lc.length
    · rw [← mrg_upd_loc p.2 hl, show s.n + (p.1 - s.n) = p.1 by omega]
      unfold upd
      by_cases e : p.1 = b
      · subst e; simp [show p.1 < s.n + s.lc.length by omega]
      · simp [e, Ne.symm e]
    · rw [List.set_eq_of_length_le (by omega)]
      rw [if_neg (by omega)]

theorem app_shape : ∀ (δ : Chg) (s : St), (s.app δ).n = s.n ∧ (s.app δ).lc.length = s.lc.length ∧ (s.app δ).sl = s.sl
  | [], s => ⟨rfl, rfl, rfl⟩
  | p :: δ, s => by
    have h1 := app1_len s p
    obtain ⟨h2, h3, h4⟩ := app_shape δ (s.app1 p)
    exact ⟨h2.trans h1.1, h3.trans h1.2.1, h4.trans h1.2.2⟩

theorem app_blk_same {b : Nat} : ∀ (δ : Chg) (s s' : St), s'.n = s.n → s'.lc.length = s.lc.length → s'.blk b = s.blk b → (s'.app δ).blk b = (s.app δ).blk b
  | [], s, s', h1, h2, h => h
  | p :: δ, s, s', h1, h2, h => by
    have e1 := app1_len s p
    have e2 := app1_len s' p
    exact app_blk_same δ (s.app1 p) (s'.app1 p) (by rw [e1.1, e2.1, h1]) (by rw [e1.2.1, e2.2.1, h2]) (by rw [blk_app1, blk_app1, h, h1, h2])

theorem app_blk_ne {b : Nat} : ∀ (δ : Chg) (s : St), (∀ p ∈ δ, p.1 ≠ b) → (s.app δ).blk b = s.blk b
  | [], s, _ => rfl
  | p :: δ, s, h => (app_blk_ne δ (s.app1 p) fun q hq => h q (by simp [hq])).trans (by rw [blk_app1, if_neg (fun e => h p (by simp) e.1)])

theorem app_blk_comm {b : Nat} (δ δ' : Chg) (s : St) (h : (∀ p ∈ δ, p.1 ≠ b) ∨ (∀ p ∈ δ', p.1 ≠ b)) : ((s.app δ).app δ').blk b = ((s.app δ').app δ).blk b := by
  have e1 := app_shape δ s
  have e2 := app_shape δ' s
  rcases h with h | h
  · rw [app_blk_ne δ _ h]
    exact app_blk_same δ' s (s.app δ) e1.1 e1.2.1 (app_blk_ne δ s h)
  · rw [app_blk_ne δ' _ h]
    exact (app_blk_same δ s (s.app δ') e2.1 e2.2.1 (app_blk_ne δ' s h)).symm

theorem hide_blk {b : Nat} : ∀ (bs : List Nat) (s : St), ((s.hide bs).blk b).con = .veil ∨ ((s.hide bs).blk b = s.blk b ∧ (b ∈ bs → ¬ b < s.n + s.lc.length))
  | [], s => .inr ⟨rfl, by simp⟩
  | c :: bs, s => by
    have e := app1_len s (c, ⟨0, .veil⟩)
    rcases hide_blk (b := b) bs (s.app1 (c, ⟨0, .veil⟩)) with h | ⟨h1, h2⟩
    · exact .inl h
    · rw [blk_app1] at h1
      rw [e.1, e.2.1] at h2
      have h3 : (s.hide (c :: bs)).blk b = ((s.app1 (c, ⟨0, .veil⟩)).hide bs).blk b := rfl
      rw [h3, h1]
      by_cases hc : c = b ∧ b < s.n + s.lc.length
      · rw [if_pos hc]; exact .inl rfl
      · rw [if_neg hc]
        refine .inr ⟨rfl, fun hm => ?_⟩
        rcases List.mem_cons.1 hm with rfl | hm
        · exact fun hlt => hc ⟨rfl, hlt⟩
        · exact h2 hm

theorem blk_high {b : Nat} (h : s.n + s.lc.length ≤ b) : s.blk b = blk0 := by
  have e3 : ¬ b < s.n := by omega
  have e4 : s.lc[b - s.n]? = none := by rw [List.getElem?_eq_none_iff]; omega
  simp [St.blk, mrg, e3, e4]

end Abs
end Go.Proofs.Ytfojedaccfenfab
