/- Regions whose order is left open: an operation sees nothing of what the operations beside it change. Regions whose order is left open: run in the order of the text, each operation with the blocks hidden that the operations beside it change. Regions whose order is left open: whatever the order, the same state comes out. -/
import Derived.Test.YtokdeeagghhliaaA15
import Derived.Orders
namespace Go.Proofs.Ytokdeeagghhliaa
namespace Abs
set_option linter.unusedVariables false

def opds : AOp → List Opd
  | .mov x => [x]
  | .pick c a b => [c, a, b]
  | .alloc _ => []
  | .box x => [x]
  | .build _ ps => ps.map (·.2.2)
  | .buildSlice _ _ _ ps => ps.map (·.2.2)
  | .load _ _ a => [a]
  | .store _ a x => [a, x]
  | .bin _ x y => [x, y]
  | .eqb _ x y => [x, y]
  | .nileq _ _ x => [x]
  | .eqs _ _ x y => [x, y]
  | .un _ x => [x]
  | .conv _ x => [x]
  | .nilck x => [x]
  | .mkfn _ cs => cs
  | .mkslice _ _ _ l c => [l, c]
  | .slice _ x lo hi => x :: (lo.toList ++ hi.toList)
  | .slicez x => [x]
  | .slicea _ _ x lo hi => x :: (lo.toList ++ hi.toList)
  | .fieldAddr _ x => [x]
  | .field _ _ _ x => [x]
  | .idxS _ x i => [x, i]
  | .idxA _ _ x i => [x, i]
  | .idx _ _ _ x i => [x, i]
  | .len x => [x]
  | .slen x => [x]
  | .append _ _ x y => [x, y]
  | .appendz _ _ _ x n => [x, n]
  | .capz x => [x]
  | .minmax _ xs => xs
  | .extract x _ => [x]
  | .mkmap => []
  | .lookup _ _ x i => [x, i]
  | .lookv _ _ x i => [x, i]
  | .mupd _ m k x => [m, k, x]
  | .call _ args => args
  | .callv x args => x :: args
  | .bad => []

/-- V knows of s all that it says, but for what it hides -/
structure Sub (s V : St) (xs : List Opd) : Prop where
  n : V.n = s.n
  len : V.lc.length = s.lc.length
  val : ∀ x ∈ xs, V.val x = s.val x
  blk : ∀ b, (V.blk b).con = .veil ∨ V.blk b = s.blk b

variable {P : Program} {s V : St}

theorem at_sub {xs : List Opd} (h : Sub s V xs) {b ver : Nat} {K K' : List D → Prop} (hk : ∀ cs, K cs → K' cs) (ha : V.at b ver K) : s.at b ver K' := by
  unfold St.at at ha ⊢
  rcases h.blk b with h1 | h1
  · generalize V.blk b = x at ha h1
    cases x with
    | mk v c => simp only at h1; subst h1; exact ha.elim
  · rw [h1] at ha
    generalize s.blk b = x at ha
    cases x with
    | mk v c => cases c <;> first | exact ha.elim | exact ⟨ha.1, hk _ ha.2⟩

theorem new_sub {xs : List Opd} (h : Sub s V xs) {dst : Option Nat} {con : Con} {K K' : Nat → Nat → Chg → Prop} (hk : ∀ a b c, K a b c → K' a b c) (ha : V.new dst con K) : s.new dst con K' := by
  unfold St.new at ha ⊢
  cases dst with
  | none => exact ha
  | some t =>
    simp only at ha ⊢
    obtain ⟨h1, h2, h3⟩ := ha
    have hb := h.blk (V.n + t)
    have e1 : V.blk (V.n + t) = V.lc.getD t blk0 := mrg_loc ..
    have e2 : s.blk (V.n + t) = s.lc.getD t blk0 := by rw [h.n]; exact mrg_loc ..
    rw [e1, e2] at hb
    rcases hb with hb | hb
    · rw [hb] at h2; cases h2
    · unfold lver at h3 ⊢
      rw [hb] at h2 h3
      rw [h.n] at h3
      exact ⟨by rw [← h.len]; exact h1, h2, hk _ _ _ h3⟩

theorem srcOf_sub {xs : List Opd} (h : Sub s V xs) {sz : Nat} {d : D} {K K' : Nat → List D → Prop} (hk : ∀ a b, K a b → K' a b) (ha : srcOf V sz d K) : srcOf s sz d K' := by
  unfold srcOf at ha ⊢
  split at ha
  · exact hk _ _ ha
  · exact hk _ _ ha
  · exact ⟨ha.1, hk _ _ ha.2⟩
  · exact ⟨ha.1, at_sub h (fun cs hc => ⟨hc.1, hk _ _ hc.2⟩) ha.2⟩
  · exact ha.elim

theorem fillD_mono {K K' : List D → Prop} (hk : ∀ cs, K cs → K' cs) : ∀ (l : List (Nat × Nat × D)) (cs : List D), fillD cs l K → fillD cs l K'
  | [], cs, h => hk _ h
  | (_, _, _) :: l, cs, h => ⟨h.1, h.2.1, h.2.2.1, fillD_mono hk l _ h.2.2.2⟩

theorem atm_sub {xs : List Opd} (h : Sub s V xs) {b ver : Nat} {K K' : List (List Int × D) → Prop} (hk : ∀ cs, K cs → K' cs) (ha : V.atm b ver K) : s.atm b ver K' := by
  unfold St.atm at ha ⊢
  rcases h.blk b with h1 | h1
  · generalize V.blk b = x at ha h1
    cases x with
    | mk v c => simp only at h1; subst h1; exact ha.elim
  · rw [h1] at ha
    generalize s.blk b = x at ha
    cases x with
    | mk v c => cases c <;> first | exact ha.elim | exact ⟨ha.1, hk _ ha.2⟩

theorem mlook_sub {xs : List Opd} (h : Sub s V xs) {n : Nat} {m z : D} {kk : Option (List Int)} {K : D → Bool → Prop} (ha : mlook V n m z kk K) : mlook s n m z kk K := by
  unfold mlook at ha ⊢
  split at ha
  · exact atm_sub h (fun _ h => h) ha
  · exact ha
  · exact ha.elim

theorem run_sub {dst : Option Nat} {K : D → Chg → Prop} {op : AOp} (h : Sub s V (opds op)) (hr : run V dst K op) : run s dst K op := by
  have hv := h.val
  cases op with
  | build z ps =>
    simp only [run] at hr ⊢
    have : (ps.map fun p => (p.1, p.2.1, V.val p.2.2)) = ps.map fun p => (p.1, p.2.1, s.val p.2.2) := List.map_congr_left fun p hp => by
      rw [hv p.2.2 (List.mem_map.2 ⟨p, hp, rfl⟩)]
    rw [← this]; exact hr
  | buildSlice sz z len ps =>
    simp only [run] at hr ⊢
    have : (ps.map fun p => (p.1, p.2.1, V.val p.2.2)) = ps.map fun p => (p.1, p.2.1, s.val p.2.2) := List.map_congr_left fun p hp => by
      rw [hv p.2.2 (List.mem_map.2 ⟨p, hp, rfl⟩)]
    rw [← this]
    exact fillD_mono (fun cs hr => new_sub h (fun _ _ _ h => h) hr) _ _ hr
  | mkfn f cs =>
    simp only [run] at hr ⊢
    rw [← List.map_congr_left (l := cs) hv]; exact hr
  | minmax mx xs =>
    simp only [run] at hr ⊢
    rw [← List.map_congr_left (l := xs) hv]; exact hr
  | alloc z => simp only [run] at hr ⊢; exact new_sub h (fun _ _ _ h => h) hr
  | mkmap => simp only [run] at hr ⊢; exact new_sub h (fun _ _ _ h => h) hr
  | bad => simp only [run] at hr
  | lookup n z x i =>
    simp only [opds, List.mem_cons, List.not_mem_nil, or_false, forall_eq_or_imp, forall_eq] at hv
    simp only [run] at hr ⊢
    rw [hv.1, hv.2] at hr
    exact mlook_sub h hr
  | lookv n z x i =>
    simp only [opds, List.mem_cons, List.not_mem_nil, or_false, forall_eq_or_imp, forall_eq] at hv
    simp only [run] at hr ⊢
    rw [hv.1, hv.2] at hr
    exact mlook_sub h hr
  | mupd n m k x =>
    simp only [opds, List.mem_cons, List.not_mem_nil, or_false, forall_eq_or_imp, forall_eq] at hv
    simp only [run] at hr ⊢
    rw [hv.1, hv.2.1, hv.2.2] at hr
    split at hr
    · exact atm_sub h (fun _ h => h) hr
    · exact hr.elim
  | call f args => simp only [run] at hr
  | callv x args => simp only [run] at hr
  | slice sz x lo hi =>
    simp only [opds] at hv
    have h1 : lo.map V.val = lo.map s.val := by cases lo <;> simp at hv ⊢; exact hv.2.1
    have h2 : hi.map V.val = hi.map s.val := by cases hi <;> cases lo <;> simp at hv ⊢ <;> first | exact hv.2 | exact hv.2.2
    simp only [run] at hr ⊢
    rw [hv x (by simp), h1, h2] at hr
    split at hr
    · exact hr
    · exact ⟨hr.1, at_sub h (fun _ h => h) hr.2⟩
    · exact hr
    · exact hr
    · exact hr.elim
  | slicea n sz x lo hi =>
    simp only [opds] at hv
    have h1 : lo.map V.val = lo.map s.val := by cases lo <;> simp at hv ⊢; exact hv.2.1
    have h2 : hi.map V.val = hi.map s.val := by cases hi <;> cases lo <;> simp at hv ⊢ <;> first | exact hv.2 | exact hv.2.2
    simp only [run] at hr ⊢
    rw [hv x (by simp), h1, h2] at hr
    split at hr
    · exact at_sub h (fun _ h => h) hr
    · exact hr.elim
  | _ =>
    simp only [opds, List.mem_cons, List.not_mem_nil, or_false, forall_eq_or_imp, forall_eq] at hv
    simp only [run] at hr ⊢
    first
      | exact hr
      | (simp only [hv] at hr
         first
           | exact hr
           | exact new_sub h (fun _ _ _ h => h) hr
           | exact ⟨hr.1, new_sub h (fun _ _ _ h => h) hr.2⟩
           | (refine srcOf_sub h (fun m news h1 => ⟨h1.1, ?_⟩) hr
              have h2 := h1.2
              split at h2
              · exact ⟨h2.1, new_sub h (fun _ _ _ h => h) h2.2⟩
              · exact ⟨h2.1, new_sub h (fun _ _ _ h => h) h2.2⟩
              · exact ⟨h2.1, at_sub h (fun _ h => h) h2.2⟩
              · exact h2.elim)
           | (split at hr <;> first
               | exact hr
               | exact hr.elim
               | exact at_sub h (fun _ h => h) hr
               | exact atm_sub h (fun _ h => h) hr
               | exact ⟨hr.1, at_sub h (fun _ h => h) hr.2⟩
               | exact ⟨hr.1, hr.2.1, new_sub h (fun _ _ _ h => h) hr.2.2⟩
               | exact ⟨hr.1, hr.2.1, at_sub h (fun _ h => h) hr.2.2⟩
               | exact ⟨hr.1, hr.2.1, hr.2.2.1, at_sub h (fun _ h => h) hr.2.2.2⟩
               | exact ⟨hr.1, hr.2.1, hr.2.2.1, hr.2.2.2.1, new_sub h (fun _ _ _ h => h) hr.2.2.2.2⟩))

/-- an operation that knows only what V says -/
def stepV (P : Program) (o : AOper) (V : St) (K : D → Chg → Prop) : Prop :=
  match o.op with
  | .call f args => ∀ s, Sub s V [] → ACalls P f (args.map V.val) (V.n + V.lc.length) s.hp (callK s o.dst K)
  | .callv x args => match V.val x with
    | .fn f caps => ∀ s, Sub s V [] → ACalls P f (args.map V.val ++ caps) (V.n + V.lc.length) s.hp (callK s o.dst K)
    | _ => False
  | op => run V o.dst K op

theorem stepV_sub {o : AOper} {K : D → Chg → Prop} (h : Sub s V (opds o.op)) (hr : stepV P o V K) : stepO P o s K := by
  have h0 : Sub s V [] := ⟨h.n, h.len, by simp, h.blk⟩
  unfold stepV at hr
  unfold stepO
  cases hop : o.op <;> rw [hop] at h hr
  case call f args =>
    have := hr s h0
    rw [h.n, h.len, List.map_congr_left (l := args) h.val] at this
    exact this
  case callv x args =>
    have h1 := h.val x (by simp [opds])
    have h2 : args.map V.val = args.map s.val := List.map_congr_left fun y hy => h.val y (by simp [opds, hy])
    simp only at hr ⊢
    rw [h1] at hr
    generalize s.val x = y at hr ⊢
    cases y <;> first | exact hr.elim | skip
    have := hr s h0
    rw [h.n, h.len, h2] at this
    exact this
  all_goals exact run_sub h hr

/-! ### what is hidden -/
def St.hide (s : St) (bs : List Nat) : St := s.app (bs.map fun b => (b, ⟨0, .veil⟩))

theorem blk_app1 (s : St) (p : Nat × Blk) (b : Nat) : (s.app1 p).blk b = if p.1 = b ∧ b < s.n + s.lc.length then p.2 else s.blk b := by
  unfold St.app1
  split
  · rename_i h
    unfold St.blk
    simp only
    rw [← mrg_upd_lt p.2 h]
    unfold upd
    by_cases e : p.1 = b
    · subst e; simp [show p.1 < s.n + s.lc.length by omega]
    · simp [e, Ne.symm e]
  · rename_i h
    unfold St.blk
    simp only
    by_cases hl : p.1 - s.n < s.lc.length
    · rw [← mrg_upd_loc p.2 hl, show s.n + (p.1 - s.n) = p.1 by omega]
      unfold upd
      by_cases e : p.1 = b
      · subst e; simp [show p.1 < s.n + s.lc.length by omega]
      · simp [e, Ne.symm e]
    · rw [List.set_eq_of_length_le (by omega)]
      rw [if_neg (by omega)]

theorem app_shape : ∀ (δ : Chg) (s : St), (s.app δ).n = s.n ∧ (s.app δ).lc.length = s.lc.length ∧ (s.app δ).sl = s.sl
  | [], s => ⟨rfl, rfl, rfl⟩
  | p :: δ, s => by
    have h1 := app1_len s p
    obtain ⟨h2, h3, h4⟩ := app_shape δ (s.app1 p)
    exact ⟨h2.trans h1.1, h3.trans h1.2.1, h4.trans h1.2.2⟩

theorem app_blk_same {b : Nat} : ∀ (δ : Chg) (s s' : St), s'.n = s.n → s'.lc.length = s.lc.length → s'.blk b = s.blk b → (s'.app δ).blk b = (s.app δ).blk b
  | [], s, s', h1, h2, h => h
  | p :: δ, s, s', h1, h2, h => by
    have e1 := app1_len s p
    have e2 := app1_len s' p
    exact app_blk_same δ (s.app1 p) (s'.app1 p) (by rw [e1.1, e2.1, h1]) (by rw [e1.2.1, e2.2.1, h2]) (by rw [blk_app1, blk_app1, h, h1, h2])

theorem app_blk_ne {b : Nat} : ∀ (δ : Chg) (s : St), (∀ p ∈ δ, p.1 ≠ b) → (s.app δ).blk b = s.blk b
  | [], s, _ => rfl
  | p :: δ, s, h => (app_blk_ne δ (s.app1 p) fun q hq => h q (by simp [hq])).trans (by rw [blk_app1, if_neg (fun e => h p (by simp) e.1)])

theorem app_blk_comm {b : Nat} (δ δ' : Chg) (s : St) (h : (∀ p ∈ δ, p.1 ≠ b) ∨ (∀ p ∈ δ', p.1 ≠ b)) : ((s.app δ).app δ').blk b = ((s.app δ').app δ).blk b := by
  have e1 := app_shape δ s
  have e2 := app_shape δ' s
  rcases h with h | h
  · rw [app_blk_ne δ _ h]
    exact app_blk_same δ' s (s.app δ) e1.1 e1.2.1 (app_blk_ne δ s h)
  · rw [app_blk_ne δ' _ h]
    exact (app_blk_same δ s (s.app δ') e2.1 e2.2.1 (app_blk_ne δ' s h)).symm

theorem hide_blk {b : Nat} : ∀ (bs : List Nat) (s : St), ((s.hide bs).blk b).con = .veil ∨ ((s.hide bs).blk b = s.blk b ∧ (b ∈ bs → ¬ b < s.n + s.lc.length))
  | [], s => .inr ⟨rfl, by simp⟩
  | c :: bs, s => by
    have e := app1_len s (c, ⟨0, .veil⟩)
    rcases hide_blk (b := b) bs (s.app1 (c, ⟨0, .veil⟩)) with h | ⟨h1, h2⟩
    · exact .inl h
    · rw [blk_app1] at h1
      rw [e.1, e.2.1] at h2
      have h3 : (s.hide (c :: bs)).blk b = ((s.app1 (c, ⟨0, .veil⟩)).hide bs).blk b := rfl
      rw [h3, h1]
      by_cases hc : c = b ∧ b < s.n + s.lc.length
      · rw [if_pos hc]; exact .inl rfl
      · rw [if_neg hc]
        refine .inr ⟨rfl, fun hm => ?_⟩
        rcases List.mem_cons.1 hm with rfl | hm
        · exact fun hlt => hc ⟨rfl, hlt⟩
        · exact h2 hm

theorem blk_high {b : Nat} (h : s.n + s.lc.length ≤ b) : s.blk b = blk0 := by
  have e3 : ¬ b < s.n := by omega
  have e4 : s.lc[b - s.n]? = none := by rw [List.getElem?_eq_none_iff]; omega
  simp [St.blk, mrg, e3, e4]

end Abs
end Go.Proofs.Ytokdeeagghhliaa

namespace Go.Proofs.Ytokdeeagghhliaa
namespace Abs
set_option linter.unusedVariables false

def binding (o : Oper) : List Nat := (o.after.toList.filter (Region.binds .any)).map (·.on)
def preOf (ops : List Oper) : List Nat := ops.foldl (fun acc o => acc ++ [(binding o).foldl (fun m e => m ||| 2 ^ e ||| acc.getD e 0) 0]) []
def bit (pre : List Nat) (i j : Nat) : Bool := (pre.getD i 0).testBit j

def looks (o : AOper) : List Nat := (match o.guard with | .on t _ => [t] | _ => []) ++ (opds o.op).filterMap fun | .tmp t => some t | _ => none
def apartA (x y : AOper) : Bool :=
  (match x.dst with | some d => !(looks y).contains d && y.dst != some d | none => true) && (match y.dst with | some d => !(looks x).contains d | none => true)

def isNew : AOp → Bool
  | .alloc _ | .box _ | .buildSlice .. | .mkslice .. | .append .. | .appendz .. | .mkmap | .call .. | .callv .. => true
  | _ => false
def isEff : AOp → Bool
  | .store .. | .append .. | .mupd .. | .call .. | .callv .. => true
  | _ => false

def owns (o : AOper) : List Nat := if isNew o.op then o.dst.toList else []

def preOk (ops : List Oper) (pre : List Nat) : Bool :=
  (List.range ops.length).all fun i => match ops[i]? with
    | some o => (binding o).all (fun e => decide (e < i)) && (List.range ops.length).all fun j => !bit pre i j || (decide (j < i) && (binding o).any fun e => j == e || bit pre e j)
    | none => true
def unOf (m : Nat) (pre : List Nat) (i : Nat) : List Nat := (List.range m).filter fun j => j != i && !bit pre i j && !bit pre j i
def apartOk (os : List AOper) (pre : List Nat) : Bool :=
  (List.range os.length).all fun i => (List.range i).all fun j => bit pre i j || (match os[i]?, os[j]? with | some x, some y => apartA x y | _, _ => true)

/-- an operation; the slots whose own blocks, and the operations whose declared blocks, are hidden from it -/
structure DOper where
  o : AOper
  slots : List Nat
  effs : List Nat

def dop (os : List AOper) (pre : List Nat) (i : Nat) (o : AOper) : DOper :=
  ⟨o, (unOf os.length pre i).flatMap (fun j => match os[j]? with | some x => owns x | none => []), (unOf os.length pre i).filter fun j => match os[j]? with | some x => isEff x.op | none => false⟩
def dopsGo (os : List AOper) (pre : List Nat) : List AOper → Nat → List DOper
  | [], _ => []
  | o :: r, i => dop os pre i o :: dopsGo os pre r (i + 1)
def dops (os : List AOper) (pre : List Nat) : List DOper := dopsGo os pre os 0

def hidOf (n : Nat) (dc : List (List Nat)) (x : DOper) : List Nat := x.slots.map (n + ·) ++ x.effs.flatMap fun j => dc.getD j []
def covOf (n : Nat) (dc : List (List Nat)) (k : Nat) (x : DOper) : List Nat := (owns x.o).map (n + ·) ++ cond (isEff x.o.op) (dc.getD k []) []

def adr1 (P : Program) (dc : List (List Nat)) (k : Nat) (x : DOper) (s : St) (K : D → Chg → Prop) : Prop :=
  ∃ d δ, stepV P x.o (s.hide (hidOf s.n dc x)) (fun d' δ' => d' = d ∧ δ' = δ) ∧ (∀ p ∈ δ, p.1 ∈ covOf s.n dc k x ∧ p.1 ∉ hidOf s.n dc x) ∧ K d δ

def adr (P : Program) (dc : List (List Nat)) : List DOper → Nat → St → (St → Prop) → Prop
  | [], _, s, K => K s
  | x :: r, k, s, K => match x.o.guard with
    | .always => adr1 P dc k x s fun d δ => adr P dc r (k + 1) (s.fin x.o.dst d δ) K
    | .on t want => match nth s.sl t with
      | .bool b => (b = want → adr1 P dc k x s fun d δ => adr P dc r (k + 1) (s.fin x.o.dst d δ) K) ∧ (b ≠ want → adr P dc r (k + 1) (s.fin x.o.dst (.tup []) []) K)
      | .tup [] => adr P dc r (k + 1) (s.fin x.o.dst (.tup []) []) K
      | _ => False
    | .bad => False

/-! ### what the listed operations leave -/
structure Out where
  x : DOper
  d : D
  δ : Chg

def wr : List Out → Nat → (Nat → Bool) → St → St
  | [], _, _, s => s
  | y :: r, k, m, s => wr r (k + 1) m (if m k then s.fin y.x.o.dst y.d y.δ else s)

structure Eqv (s s' : St) : Prop where
  n : s'.n = s.n
  len : s'.lc.length = s.lc.length
  slen : s'.sl.length = s.sl.length
  sl : ∀ t, nth s'.sl t = nth s.sl t
  blk : ∀ b, s'.blk b = s.blk b

variable {P : Program} {s : St} {a : Act} {w : World} {M : Ctx}

theorem SimA.eqv {s' : St} (h : SimA s a w M) (e : Eqv s s') : SimA s' a w M := by
  have h1 : s'.sl = s.sl := List.ext_getElem? fun i => by
    by_cases hi : i < s.sl.length
    · rw [nth_get hi, nth_get (by rw [e.slen]; exact hi), e.sl]
    · rw [List.getElem?_eq_none (l := s'.sl) (by rw [e.slen]; omega), List.getElem?_eq_none (l := s.sl) (by omega)]
  have h2 : s'.hp = s.hp := funext e.blk
  exact ⟨h.defers, by rw [h1]; exact h.size, by rw [h1]; exact h.sl, by rw [h2]; exact h.sim⟩

theorem fin_shape (s : St) (dst : Option Nat) (d : D) (δ : Chg) : (s.fin dst d δ).n = s.n ∧ (s.fin dst d δ).lc.length = s.lc.length ∧ (s.fin dst d δ).sl.length = s.sl.length := by
  refine ⟨rfl, (app_shape δ s).2.1, ?_⟩
  cases dst <;> simp [St.fin, setD]

theorem fin_blk (s : St) (dst : Option Nat) (d : D) (δ : Chg) (b : Nat) : (s.fin dst d δ).blk b = (s.app δ).blk b := by
  unfold St.blk
  rw [(app_shape δ s).1]; rfl

theorem nth_set {l : List D} {i j : Nat} {d : D} : nth (l.set i d) j = if i = j ∧ j < l.length then d else nth l j := by
  unfold nth
  simp only [List.getD_eq_getElem?_getD, List.getElem?_set]
  by_cases h : i = j
  · subst h; by_cases hl : i < l.length <;> simp [hl]
  · simp [h]

theorem fin_sl (s : St) (dst : Option Nat) (d : D) (δ : Chg) (t : Nat) : nth (s.fin dst d δ).sl t = if dst = some t ∧ t < s.sl.length then d else nth s.sl t := by
  cases dst with
  | none => simp [St.fin, setD]
  | some k => simp [St.fin, setD, nth_set]

theorem wr_shape : ∀ (l : List Out) (k : Nat) (m : Nat → Bool) (s : St), (wr l k m s).n = s.n ∧ (wr l k m s).lc.length = s.lc.length ∧ (wr l k m s).sl.length = s.sl.length
  | [], _, _, s => ⟨rfl, rfl, rfl⟩
  | y :: r, k, m, s => by
    have h1 : (if m k then s.fin y.x.o.dst y.d y.δ else s).n = s.n ∧ (if m k then s.fin y.x.o.dst y.d y.δ else s).lc.length = s.lc.length ∧ (if m k then s.fin y.x.o.dst y.d y.δ else s).sl.length = s.sl.length := by
      split
      · exact fin_shape ..
      · exact ⟨rfl, rfl, rfl⟩
    obtain ⟨h2, h3, h4⟩ := wr_shape r (k + 1) m (if m k then s.fin y.x.o.dst y.d y.δ else s)
    exact ⟨h2.trans h1.1, h3.trans h1.2.1, h4.trans h1.2.2⟩

theorem wr_sl {t : Nat} {m1 m2 : Nat → Bool} : ∀ (l : List Out) (k : Nat) (s1 s2 : St), s1.sl.length = s2.sl.length → nth s1.sl t = nth s2.sl t →
    (∀ (i : Nat) (y : Out), l[i]? = some y → y.x.o.dst = some t → m1 (k + i) = m2 (k + i)) → nth (wr l k m1 s1).sl t = nth (wr l k m2 s2).sl t
  | [], _, _, _, _, h, _ => h
  | y :: r, k, s1, s2, hl, h, hm => by
    refine wr_sl r (k + 1) _ _ ?_ ?_ fun i z hz hd => by
      have := hm (i + 1) z (by simpa using hz) hd
      rwa [show k + 1 + i = k + (i + 1) by omega]
    · have e1 := (fin_shape s1 y.x.o.dst y.d y.δ).2.2
      have e2 := (fin_shape s2 y.x.o.dst y.d y.δ).2.2
      split <;> split <;> simp [e1, e2, hl]
    · by_cases hd : y.x.o.dst = some t
      · have := hm 0 y (by simp) hd
        simp only [Nat.add_zero] at this
        rw [this]
        split
        · rw [fin_sl, fin_sl, h, hl]
        · exact h
      · have e1 : ∀ s : St, nth (s.fin y.x.o.dst y.d y.δ).sl t = nth s.sl t := fun s => by rw [fin_sl, if_neg (fun e => hd e.1)]
        split <;> split <;> simp [e1, h]

theorem wr_blk {b : Nat} {m1 m2 : Nat → Bool} : ∀ (l : List Out) (k : Nat) (s1 s2 : St), s1.n = s2.n → s1.lc.length = s2.lc.length → s1.blk b = s2.blk b →
    (∀ (i : Nat) (y : Out), l[i]? = some y → (∃ p ∈ y.δ, p.1 = b) → m1 (k + i) = m2 (k + i)) → (wr l k m1 s1).blk b = (wr l k m2 s2).blk b
  | [], _, _, _, _, _, h, _ => h
  | y :: r, k, s1, s2, hn, hl, h, hm => by
    have f1 := fin_shape s1 y.x.o.dst y.d y.δ
    have f2 := fin_shape s2 y.x.o.dst y.d y.δ
    refine wr_blk r (k + 1) _ _ ?_ ?_ ?_ fun i z hz hd => by
      have := hm (i + 1) z (by simpa using hz) hd
      rwa [show k + 1 + i = k + (i + 1) by omega]
    · split <;> split <;> simp [f1.1, f2.1, hn]
    · split <;> split <;> simp [f1.2.1, f2.2.1, hl]
    · by_cases hd : ∃ p ∈ y.δ, p.1 = b
      · have := hm 0 y (by simp) hd
        simp only [Nat.add_zero] at this
        rw [this]
        split
        · rw [fin_blk, fin_blk]; exact (app_blk_same y.δ s2 s1 hn hl h)
        · exact h
      · have e1 : ∀ s : St, (s.fin y.x.o.dst y.d y.δ).blk b = s.blk b := fun s => by
          rw [fin_blk]; exact app_blk_ne _ _ fun p hp e => hd ⟨p, hp, e⟩
        split <;> split <;> simp [e1, h]

theorem wr_congr {m1 m2 : Nat → Bool} : ∀ (l : List Out) (k : Nat) (s : St), (∀ i, i < l.length → m1 (k + i) = m2 (k + i)) → wr l k m1 s = wr l k m2 s
  | [], _, _, _ => rfl
  | y :: r, k, s, hm => by
    have h0 := hm 0 (by simp)
    simp only [Nat.add_zero] at h0
    simp only [wr, h0]
    exact wr_congr r (k + 1) _ fun i hi => by
      have := hm (i + 1) (by simpa using hi)
      rwa [show k + 1 + i = k + (i + 1) by omega]

theorem wr_add {m m' : Nat → Bool} : ∀ (l : List Out) (k i : Nat) (s : St) (y : Out), l[i]? = some y → m (k + i) = false → m' (k + i) = true → (∀ j, j ≠ k + i → m' j = m j) →
    (∀ (j : Nat) (z : Out), i < j → l[j]? = some z → m (k + j) = true → (∀ t, y.x.o.dst = some t → z.x.o.dst ≠ some t) ∧ (∀ p ∈ y.δ, ∀ q ∈ z.δ, q.1 ≠ p.1)) →
    Eqv ((wr l k m s).fin y.x.o.dst y.d y.δ) (wr l k m' s)
  | [], _, _, _, _, h, _, _, _, _ => by simp at h
  | z :: r, k, 0, s, y, h, hf, ht, hm, hs => by
    simp only [List.getElem?_cons_zero, Option.some.injEq] at h
    subst h
    simp only [Nat.add_zero] at hf ht hm
    simp only [wr, hf, ht, if_true, Bool.false_eq_true, if_false]
    have c : wr r (k + 1) m' (s.fin z.x.o.dst z.d z.δ) = wr r (k + 1) m (s.fin z.x.o.dst z.d z.δ) := wr_congr r (k + 1) _ fun i hi => hm _ (by omega)
    rw [c]
    have s1 := wr_shape r (k + 1) m (s.fin z.x.o.dst z.d z.δ)
    have s2 := wr_shape r (k + 1) m s
    have s3 := fin_shape s z.x.o.dst z.d z.δ
    have s4 := fin_shape (wr r (k + 1) m s) z.x.o.dst z.d z.δ
    refine ⟨by rw [s1.1, s4.1, s2.1, s3.1], by rw [s1.2.1, s4.2.1, s2.2.1, s3.2.1], by rw [s1.2.2, s4.2.2, s2.2.2, s3.2.2], fun t => ?_, fun b => ?_⟩
    · rw [fin_sl, s2.2.2]
      by_cases hd : z.x.o.dst = some t ∧ t < s.sl.length
      · rw [if_pos hd]
        have : nth (wr r (k + 1) m (s.fin z.x.o.dst z.d z.δ)).sl t = nth (wr r (k + 1) (fun _ => false) (s.fin z.x.o.dst z.d z.δ)).sl t := wr_sl r (k + 1) _ _ rfl rfl fun i y hy hyd => by
          by_cases e : m (k + 1 + i) = true
          · exact ((hs (i + 1) y (by omega) (by simpa using hy) (by rwa [show k + (i + 1) = k + 1 + i by omega])).1 t hd.1 hyd).elim
          · simpa using e
        rw [this]
        have z0 : ∀ (l : List Out) (k : Nat) (s : St), wr l k (fun _ => false) s = s := by
          intro l
          induction l with
          | nil => intros; rfl
          | cons y l ih => intro k s; simp only [wr, Bool.false_eq_true, if_false]; exact ih _ _
        rw [z0, fin_sl, if_pos hd]
      · rw [if_neg hd]
        exact wr_sl r (k + 1) _ _ s3.2.2 (by rw [fin_sl, if_neg hd]) fun _ _ _ _ => rfl
    · rw [fin_blk]
      by_cases hb : ∃ p ∈ z.δ, p.1 = b
      · obtain ⟨p, hp, rfl⟩ := hb
        have e0 : ∀ s : St, (wr r (k + 1) m s).blk p.1 = s.blk p.1 := fun s => by
          have z0 : ∀ (l : List Out) (k : Nat) (s : St), wr l k (fun _ => false) s = s := by
            intro l
            induction l with
            | nil => intros; rfl
            | cons y l ih => intro k s; simp only [wr, Bool.false_eq_true, if_false]; exact ih _ _
          rw [wr_blk (m2 := fun _ => false) r (k + 1) s s rfl rfl rfl fun i y hy ⟨q, hq, e⟩ => by
            by_cases e' : m (k + 1 + i) = true
            · exact ((hs (i + 1) y (by omega) (by simpa using hy) (by rwa [show k + (i + 1) = k + 1 + i by omega])).2 p hp q hq e).elim
            · simpa using e', z0]
        rw [e0, fin_blk]
        exact (app_blk_same z.δ s _ s2.1 s2.2.1 (e0 s)).symm
      · rw [app_blk_ne _ _ fun p hp e => hb ⟨p, hp, e⟩]
        exact wr_blk r (k + 1) _ _ s3.1 s3.2.1 (by rw [fin_blk]; exact app_blk_ne _ _ fun p hp e => hb ⟨p, hp, e⟩) fun _ _ _ _ => rfl
  | z :: r, k, i + 1, s, y, h, hf, ht, hm, hs => by
    simp only [wr]
    rw [hm k (by omega)]
    exact wr_add r (k + 1) i _ y (by simpa using h) (by rwa [show k + 1 + i = k + (i + 1) by omega]) (by rwa [show k + 1 + i = k + (i + 1) by omega]) (fun j hj => hm j (by omega))
      fun j z' hj hz hm' => hs (j + 1) z' (by omega) (by simpa using hz) (by rwa [show k + (j + 1) = k + 1 + j by omega])

/-- what the run in the text's order tells of one operation -/
def Fact (P : Program) (dc : List (List Nat)) (k : Nat) (T : St) (y : Out) : Prop :=
  (∀ p ∈ y.δ, p.1 ∈ covOf T.n dc k y.x ∧ p.1 ∉ hidOf T.n dc y.x) ∧
  match y.x.o.guard with
  | .always => stepV P y.x.o (T.hide (hidOf T.n dc y.x)) fun d' δ' => d' = y.d ∧ δ' = y.δ
  | .on t want => (∃ b, nth T.sl t = .bool b ∧ (b = want → stepV P y.x.o (T.hide (hidOf T.n dc y.x)) fun d' δ' => d' = y.d ∧ δ' = y.δ) ∧ (b ≠ want → y.d = .tup [] ∧ y.δ = [])) ∨ (nth T.sl t = .tup [] ∧ y.d = .tup [] ∧ y.δ = [])
  | .bad => False

theorem adr_facts {dc : List (List Nat)} {K : St → Prop} : ∀ (l : List DOper) (k : Nat) (s : St), adr P dc l k s K →
    ∃ ys : List Out, ys.map (·.x) = l ∧ K (wr ys k (fun _ => true) s) ∧ ∀ (i : Nat) (y : Out), ys[i]? = some y → Fact P dc (k + i) (wr ys k (fun j => decide (j < k + i)) s) y
  | [], k, s, h => ⟨[], rfl, h, by simp⟩
  | x :: r, k, s, h => by
    have step : ∀ d δ, Fact P dc k s ⟨x, d, δ⟩ → adr P dc r (k + 1) (s.fin x.o.dst d δ) K → ∃ ys : List Out, ys.map (·.x) = x :: r ∧ K (wr ys k (fun _ => true) s) ∧ ∀ (i : Nat) (y : Out), ys[i]? = some y → Fact P dc (k + i) (wr ys k (fun j => decide (j < k + i)) s) y := by
      intro d δ hf hr
      obtain ⟨ys, h1, h2, h3⟩ := adr_facts r (k + 1) _ hr
      refine ⟨⟨x, d, δ⟩ :: ys, by simp [h1], by simpa [wr] using h2, fun i y hy => ?_⟩
      cases i with
      | zero =>
        simp only [List.getElem?_cons_zero, Option.some.injEq] at hy
        subst hy
        have z0 : wr (⟨x, d, δ⟩ :: ys) k (fun j => decide (j < k + 0)) s = s := by
          have : ∀ (l : List Out) (k' : Nat) (s : St), k ≤ k' → wr l k' (fun j => decide (j < k + 0)) s = s := by
            intro l
            induction l with
            | nil => intros; rfl
            | cons y l ih =>
              intro k' s hk
              simp only [wr]
              rw [if_neg (by simp; omega)]
              exact ih _ _ (by omega)
          exact this _ _ _ (Nat.le_refl _)
        rw [z0]; exact hf
      | succ i =>
        have := h3 i y (by simpa using hy)
        rw [show k + 1 + i = k + (i + 1) by omega] at this
        simp only [wr]
        rw [if_pos (by simp)]
        exact this
    simp only [adr] at h
    split at h
    · rename_i hg
      obtain ⟨d, δ, h1, h2, h3⟩ := h
      exact step d δ ⟨h2, by simp only [hg]; exact h1⟩ h3
    · rename_i t want hg
      split at h
      · rename_i b hb
        by_cases hw : b = want
        · obtain ⟨d, δ, h1, h2, h3⟩ := h.1 hw
          exact step d δ ⟨h2, by simp only [hg]; exact .inl ⟨b, hb, fun _ => h1, fun hn => (hn hw).elim⟩⟩ h3
        · exact step (.tup []) [] ⟨by simp, by simp only [hg]; exact .inl ⟨b, hb, fun hn => (hw hn).elim, fun _ => by simp⟩⟩ (h.2 hw)
      · rename_i hb
        exact step (.tup []) [] ⟨by simp, by simp only [hg]; exact .inr ⟨hb, by simp⟩⟩ h
      · exact h.elim
    · exact h.elim

end Abs
end Go.Proofs.Ytokdeeagghhliaa

namespace Go.Proofs.Ytokdeeagghhliaa
namespace Abs
set_option linter.unusedVariables false

variable {P : Program} {s : St} {a : Act} {w : World} {M : Ctx}

theorem dopsGo_get {os : List AOper} {pre : List Nat} : ∀ (l : List AOper) (k i : Nat), (dopsGo os pre l k)[i]? = (l[i]?).map (dop os pre (k + i))
  | [], k, i => by simp [dopsGo]
  | o :: r, k, 0 => by simp [dopsGo]
  | o :: r, k, i + 1 => by
    simp only [dopsGo, List.getElem?_cons_succ]
    rw [dopsGo_get r (k + 1) i, show k + 1 + i = k + (i + 1) by omega]

theorem dops_get {os : List AOper} {pre : List Nat} (i : Nat) : (dops os pre)[i]? = (os[i]?).map (dop os pre i) := by
  unfold dops
  rw [dopsGo_get]; simp

theorem mem_unOf {m i j : Nat} {pre : List Nat} : j ∈ unOf m pre i ↔ j < m ∧ j ≠ i ∧ bit pre i j = false ∧ bit pre j i = false := by
  simp [unOf, List.mem_filter, and_assoc]

theorem apartA_spec {x y : AOper} (h : apartA x y = true) :
    (∀ d, x.dst = some d → d ∉ looks y) ∧ (∀ d, x.dst = some d → y.dst ≠ some d) ∧ (∀ d, y.dst = some d → d ∉ looks x) := by
  refine ⟨fun d hd => ?_, fun d hd => ?_, fun d hd => ?_⟩ <;> simp [apartA, hd] at h
  · exact h.1.1
  · exact h.1.2
  · exact h.2

theorem hide_shape (s : St) (bs : List Nat) : (s.hide bs).n = s.n ∧ (s.hide bs).lc.length = s.lc.length ∧ (s.hide bs).sl = s.sl := app_shape _ s

theorem adr_sound {id : Nat} {ops : Array Oper} {pre : List Nat} {dc : List (List Nat)} {Q : Exit → St → Prop} (hmix : P.follows .mixedOrders = true)
    (hp : preOk ops.toList pre = true) (ha : apartOk (ops.toList.map (aoper P ops)) pre = true)
    (h : adr P dc (dops (ops.toList.map (aoper P ops)) pre) 0 s (Q .normal)) : Awp P (.region id ops true) Q s := by
  intro a w M hs
  obtain ⟨ys, hys, hK, hfact⟩ := adr_facts _ _ _ h
  simp only [Nat.zero_add] at hfact
  refine wp_region_any hmix ?_
  -- the facts about the ops
  have hget : ∀ (i : Nat) (y : Out), ys[i]? = some y → ∃ o, ops[i]? = some o ∧ y.x = dop (ops.toList.map (aoper P ops)) pre i (aoper P ops o) := fun i y hy => by
    have h1 : (ys.map (·.x))[i]? = some y.x := by simp [hy]
    rw [hys, dops_get] at h1
    simp only [List.getElem?_map, Array.getElem?_toList, Option.map_map, Option.map_eq_some_iff, Function.comp] at h1
    obtain ⟨o, h2, h3⟩ := h1
    exact ⟨o, h2, h3.symm⟩
  have hlen : ys.length = ops.size := by
    have h1 := congrArg List.length hys
    have h2 : ∀ (os l : List AOper) (k : Nat), (dopsGo os pre l k).length = l.length := by
      intro os l
      induction l with
      | nil => intro; rfl
      | cons o l ih => intro k; simp [dopsGo, ih]
    simpa [dops, h2] using h1
  have hpre : ∀ (i : Nat) (o : Oper), ops[i]? = some o → (∀ e ∈ binding o, e < i) ∧ ∀ j, j < ops.size → bit pre i j = true → j < i ∧ ∃ e ∈ binding o, j = e ∨ bit pre e j = true := fun i o ho => by
    have hi : i < ops.size := (Array.getElem?_eq_some_iff.1 ho).1
    have h1 := List.all_eq_true.1 hp i (by simpa using hi)
    simp only [Array.getElem?_toList, ho, Bool.and_eq_true, List.all_eq_true, decide_eq_true_eq, Array.length_toList, List.mem_range, Bool.or_eq_true, Bool.not_eq_true', List.any_eq_true, beq_iff_eq] at h1
    refine ⟨h1.1, fun j hj hb => ?_⟩
    rcases h1.2 j hj with h2 | h2
    · rw [hb] at h2; cases h2
    · exact h2
  have hapart : ∀ (i j : Nat) (x y : Oper), ops[i]? = some x → ops[j]? = some y → j ≠ i → bit pre i j = false → bit pre j i = false →
      (∀ d, x.dst = some d → d ∉ looks (aoper P ops y)) ∧ (∀ d, x.dst = some d → y.dst ≠ some d) ∧ (∀ d, y.dst = some d → d ∉ looks (aoper P ops x)) := fun i j x y hx hy hne h1 h2 => by
    have hi : i < ops.size := (Array.getElem?_eq_some_iff.1 hx).1
    have hj : j < ops.size := (Array.getElem?_eq_some_iff.1 hy).1
    have key : ∀ (i j : Nat) (x y : Oper), ops[i]? = some x → ops[j]? = some y → j < i → i < ops.size → bit pre i j = false → apartA (aoper P ops x) (aoper P ops y) = true := fun i j x y hx hy hlt hi h1 => by
      have h3 := List.all_eq_true.1 ha i (by simpa using hi)
      have h4 := List.all_eq_true.1 h3 j (by simpa using hlt)
      simpa [h1, hx, hy] using h4
    rcases Nat.lt_or_gt_of_ne hne with hlt | hlt
    · obtain ⟨q1, q2, q3⟩ := apartA_spec (key i j x y hx hy hlt hi h1)
      exact ⟨q1, q2, q3⟩
    · obtain ⟨q1, q2, q3⟩ := apartA_spec (key j i y x hy hx hlt hj h2)
      exact ⟨q3, fun d hd he => q2 d he hd, q1⟩
  have hbind : ∀ (o : Oper) (L : Array Bool), (∀ e ∈ o.after, Region.binds .any e = true → L.getD e.on false = true) ↔ ∀ e ∈ binding o, L.getD e false = true := fun o L => by
    constructor
    · intro h e he
      simp only [binding, List.mem_map, List.mem_filter, Array.mem_toList_iff] at he
      obtain ⟨e', ⟨h1, h2⟩, rfl⟩ := he
      exact h e' h1 h2
    · intro h e he hb
      exact h e.on (List.mem_map.2 ⟨e, List.mem_filter.2 ⟨by simpa using he, hb⟩, rfl⟩)
  have go : ∀ (fuel : Nat) (L : Array Bool) (a : Act) (w1 : World) (M1 : Ctx), L.size = ops.size → L.toList.count false = fuel →
      (∀ i j, j < ops.size → L.getD i false = true → bit pre i j = true → L.getD j false = true) →
      SimA (wr ys 0 (fun j => L.getD j false) s) a w1 M1 → Grows s.n w M w1 M1 →
      wpAny P .any ops (fun e a' w' => ∃ s' M', s'.n = s.n ∧ Q e s' ∧ SimA s' a' w' M' ∧ Grows s.n w M w' M') fuel L a w1 := by
    intro fuel
    have fin : ∀ (L : Array Bool) (a : Act) (w1 : World) (M1 : Ctx), (∀ j, j < ops.size → L.getD j false = true) → SimA (wr ys 0 (fun j => L.getD j false) s) a w1 M1 → Grows s.n w M w1 M1 →
        ∃ s' M', s'.n = s.n ∧ Q .normal s' ∧ SimA s' a w1 M' ∧ Grows s.n w M w1 M' := fun L a w1 M1 hall hsim hg => by
      rw [wr_congr (m2 := fun _ => true) ys 0 s (fun i hi => by rw [Nat.zero_add]; exact hall i (by omega))] at hsim
      exact ⟨_, M1, (wr_shape ..).1, hK, hsim, hg⟩
    induction fuel with
    | zero =>
      intro L a w1 M1 hsz hc hcl hsim hg
      have hall : ∀ j, j < ops.size → L.getD j false = true := fun j hj => by
        have hj' : j < L.size := by omega
        have h1 := List.count_eq_zero.1 hc
        have h2 : L[j] ≠ false := fun e => h1 (by rw [← e]; simp)
        simpa [Array.getD, hj'] using h2
      refine ⟨?_, fin L a w1 M1 hall hsim hg⟩
      apply List.eq_nil_iff_forall_not_mem.2
      intro j hj
      obtain ⟨h1, o, h2, h3⟩ := mem_ready.1 hj
      have hj : j < ops.size := (Array.getElem?_eq_some_iff.1 h2).1
      have h4 := hall j hj
      have hj' : j < L.size := by omega
      simp [Array.getD, hj'] at h1 h4
      rw [h1] at h4; cases h4
    | succ fuel ih =>
      intro L a w1 M1 hsz hc hcl hsim hg
      refine ⟨fun hr => ?_, fun i hi => ?_⟩
      · refine fin L a w1 M1 (fun j => ?_) hsim hg
        induction j using Nat.strongRecOn with
        | ind j ihj =>
          intro hj
          have hj' : j < L.size := by omega
          by_cases hf : L[j] = true
          · simp [Array.getD, hj', hf]
          · exfalso
            have hm : j ∈ Region.ready .any ops L := by
              refine mem_ready.2 ⟨by simpa [Array.getD, hj'] using hf, ops[j], by simp [hj], (hbind _ L).2 fun e he => ?_⟩
              have h1 := (hpre j ops[j] (by simp [hj])).1 e he
              exact ihj e h1 (by omega)
            rw [hr] at hm; simp at hm
      · obtain ⟨h1, o, ho, h3⟩ := mem_ready.1 hi
        have hsm : i < ops.size := (Array.getElem?_eq_some_iff.1 ho).1
        have hsm' : i < L.size := by omega
        have hLi : L[i] = false := by simpa [Array.getD, hsm'] using h1
        have hLi' : L.getD i false = false := by simp [Array.getD, hsm', hLi]
        have h4 := (hbind o L).1 h3
        obtain ⟨y, hy⟩ : ∃ y, ys[i]? = some y := ⟨ys[i]'(by omega), by simp⟩
        obtain ⟨o', ho', hyx⟩ := hget i y hy
        rw [ho] at ho'; injection ho' with ho'; subst ho'
        have hyo : y.x.o = aoper P ops o := by rw [hyx]; rfl
        have hpreL : ∀ j, j < ops.size → bit pre i j = true → j < i ∧ L.getD j false = true := fun j hj hb => by
          obtain ⟨h5, e, he, h6⟩ := (hpre i o ho).2 j hj hb
          refine ⟨h5, ?_⟩
          rcases h6 with rfl | h6
          · exact h4 j he
          · exact hcl e j hj (h4 e he) h6
        have hpostL : ∀ j, j < ops.size → bit pre j i = true → i < j ∧ L.getD j false = false := fun j hj hb => by
          refine ⟨((hpre j ops[j] (by simp [hj])).2 i hsm hb).1, ?_⟩
          cases hx : L.getD j false with
          | false => rfl
          | true => have := hcl j i hsm hx hb; rw [hLi'] at this; cases this
        have hmask : ∀ j, j < ops.size → j ∉ unOf ops.size pre i → decide (j < i) = L.getD j false := fun j hj hnu => by
          by_cases hji : j = i
          · subst hji; rw [hLi']; simp
          · cases hb : bit pre i j with
            | true => obtain ⟨q1, q2⟩ := hpreL j hj hb; rw [q2]; simp [q1]
            | false =>
              cases hb' : bit pre j i with
              | true => obtain ⟨q1, q2⟩ := hpostL j hj hb'; rw [q2]; simp; omega
              | false => exact (hnu (mem_unOf.2 ⟨hj, hji, hb, hb'⟩)).elim
        have hf := hfact i y hy
        generalize hT : wr ys 0 (fun j => decide (j < i)) s = T at hf
        have hTs := wr_shape ys 0 (fun j => decide (j < i)) s
        rw [hT] at hTs
        generalize hS : wr ys 0 (fun j => L.getD j false) s = S at hsim
        have hSs := wr_shape ys 0 (fun j => L.getD j false) s
        rw [hS] at hSs
        -- what is changed beside the operation is hidden from it
        have hcov : ∀ (j : Nat) (z : Out), ys[j]? = some z → j ∈ unOf ops.size pre i → ∀ p ∈ z.δ, p.1 ∈ hidOf T.n dc y.x := fun j z hz hu p hpz => by
          obtain ⟨oj, hoj, hzx⟩ := hget j z hz
          have hfz := (hfact j z hz).1 p hpz
          rw [(wr_shape ys 0 (fun k => decide (k < j)) s).1] at hfz
          have h5 := hfz.1
          rw [hzx] at h5
          rw [hTs.1, hyx]
          simp only [covOf, dop, List.mem_append, List.mem_map] at h5
          simp only [hidOf, dop, List.mem_append, List.mem_map, List.mem_flatMap, List.mem_filter, List.length_map, Array.length_toList]
          rcases h5 with ⟨t, ht, h6⟩ | h5
          · refine .inl ⟨t, ⟨j, hu, ?_⟩, h6⟩
            simpa [hoj] using ht
          · cases he : isEff (aoper P ops oj).op with
            | false => rw [he] at h5; simp at h5
            | true =>
              rw [he] at h5
              exact .inr ⟨j, ⟨hu, by simp [hoj, he]⟩, by simpa using h5⟩
        have hslT : ∀ t, t ∈ looks (aoper P ops o) → nth T.sl t = nth S.sl t := fun t ht => by
          rw [← hT, ← hS]
          refine wr_sl ys 0 s s rfl rfl fun j z hz hd => ?_
          obtain ⟨oj, hoj, hzx⟩ := hget j z hz
          have hj : j < ops.size := (Array.getElem?_eq_some_iff.1 hoj).1
          rw [Nat.zero_add]
          refine hmask j hj fun hu => ?_
          obtain ⟨_, q1, q2, q3⟩ := mem_unOf.1 hu
          exact (hapart i j o oj ho hoj q1 q2 q3).2.2 t (by rw [hzx] at hd; exact hd) ht
        have hsub : Sub S (T.hide (hidOf T.n dc y.x)) (opds (aoper P ops o).op) := by
          have e := hide_shape T (hidOf T.n dc y.x)
          refine ⟨by rw [e.1, hTs.1, hSs.1], by rw [e.2.1, hTs.2.1, hSs.2.1], fun x hx => ?_, fun b => ?_⟩
          · cases x with
            | val d => rfl
            | tmp t =>
              show nth (T.hide _).sl t = nth S.sl t
              rw [e.2.2]
              exact hslT t (List.mem_append.2 (.inr (List.mem_filterMap.2 ⟨_, hx, rfl⟩)))
          · rcases hide_blk (b := b) (hidOf T.n dc y.x) T with h5 | ⟨h5, h6⟩
            · exact .inl h5
            · right
              rw [h5]
              by_cases hb : b < T.n + T.lc.length
              · rw [← hT, ← hS]
                refine wr_blk ys 0 s s rfl rfl rfl fun j z hz ⟨p, hpz, hpb⟩ => ?_
                obtain ⟨oj, hoj, hzx⟩ := hget j z hz
                have hj : j < ops.size := (Array.getElem?_eq_some_iff.1 hoj).1
                rw [Nat.zero_add]
                exact hmask j hj fun hu => h6 (by have := hcov j z hz hu p hpz; rwa [hpb] at this) hb
              · rw [blk_high (by omega), blk_high (by rw [hSs.1, hSs.2.1, ← hTs.1, ← hTs.2.1]; omega)]
        -- behind the operation
        have next : ∀ (a' : Act) (w' : World) (M' : Ctx), SimA (S.fin y.x.o.dst y.d y.δ) a' w' M' → Grows s.n w M w' M' → wpAny P .any ops (fun e a' w' => ∃ s' M', s'.n = s.n ∧ Q e s' ∧ SimA s' a' w' M' ∧ Grows s.n w M w' M') fuel (L.setIfInBounds i true) a' w' := fun a' w' M' hsim' hg' => by
          have hget' : ∀ j, (L.setIfInBounds i true).getD j false = if j = i then true else L.getD j false := fun j => by
            by_cases e : j = i
            · subst e; simp [Array.getD, hsm']
            · rw [if_neg e]; exact getD_set_ne false fun h => e h.symm
          refine ih _ a' w' M' (by simp [hsz]) ?_ ?_ ?_ hg'
          · have h5 : (L.setIfInBounds i true).toList = L.toList.set i true := by simp
            rw [h5, List.count_set (by simpa using hsm')]
            simp [hLi, hc]
          · intro k j hj hk hb
            rw [hget'] at hk ⊢
            split
            · rfl
            · rename_i hji
              by_cases hki : k = i
              · subst hki; exact (hpreL j hj hb).2
              · rw [if_neg hki] at hk; exact hcl k j hj hk hb
          · refine hsim'.eqv ?_
            rw [← hS]
            refine wr_add ys 0 i s y hy (by rw [Nat.zero_add]; exact hLi') (by rw [Nat.zero_add]; simp [hsm', Array.getD]) (fun j hj => by rw [Nat.zero_add] at hj; rw [hget', if_neg hj]) fun j z hij hz hLj => ?_
            rw [Nat.zero_add] at hLj
            obtain ⟨oj, hoj, hzx⟩ := hget j z hz
            have hj : j < ops.size := (Array.getElem?_eq_some_iff.1 hoj).1
            have hb1 : bit pre i j = false := by
              cases hb : bit pre i j with
              | false => rfl
              | true => have := (hpreL j hj hb).1; omega
            have hb2 : bit pre j i = false := by
              cases hb : bit pre j i with
              | false => rfl
              | true => have := (hpostL j hj hb).2; rw [this] at hLj; cases hLj
            have hne : j ≠ i := by omega
            refine ⟨fun t ht => ?_, fun p hp1 q hq1 e => ?_⟩
            · rw [hzx]
              exact (hapart i j o oj ho hoj hne hb1 hb2).2.1 t (by rw [hyo] at ht; exact ht)
            · refine (hf.1 p hp1).2 ?_
              rw [← e]
              exact hcov j z hz (mem_unOf.2 ⟨hj, hne, hb1, hb2⟩) q hq1
        have run1 : stepV P y.x.o (T.hide (hidOf T.n dc y.x)) (fun d' δ' => d' = y.d ∧ δ' = y.δ) → Region.wanted o (yielded ops a.tmps) = true →
            wpOp P ops (fun e a' w' => ∃ s' M', s'.n = s.n ∧ Q e s' ∧ SimA s' a' w' M' ∧ Grows s.n w M w' M') i (wpAny P .any ops (fun e a' w' => ∃ s' M', s'.n = s.n ∧ Q e s' ∧ SimA s' a' w' M' ∧ Grows s.n w M w' M') fuel (L.setIfInBounds i true)) a w1 := fun hst hw => by
          unfold wpOp
          simp only [ho]
          rw [if_pos hw]
          left
          rw [hyo] at hst
          refine Oper.wp_mono (fun a' w' ⟨d, δ, v, M', ⟨hd, hδ'⟩, hδ, ha', hstp, hsim', hr⟩ => ?_) (stepO_sound (ops := ops) hsim (stepV_sub hsub hst))
          subst hd; subst hδ'; subst ha'
          refine next _ w' M' ?_ (hg.trans (hstp.grows _))
          have := simA_put hsim hstp hr hδ hsim' o.dst
          rw [hyo]; exact this
        have hg2 := hf.2
        rw [hyo] at hg2
        split at hg2
        · rename_i hgd
          refine run1 (by rw [hyo]; exact hg2) ?_
          have : o.guard = none := by
            simp only [aoper, aguard] at hgd
            split at hgd
            · assumption
            · split at hgd <;> cases hgd
          simp [Region.wanted, this]
        · rename_i t want hgd
          obtain ⟨j, hgo, hj⟩ : ∃ j, o.guard = some (j, want) ∧ (ops[j]?).bind (·.dst) = some t := by
            simp only [aoper, aguard] at hgd
            split at hgd
            · cases hgd
            · rename_i j want' hgo
              split at hgd
              · rename_i t' hj
                injection hgd with h1 h2
                subst h1; subst h2
                exact ⟨j, hgo, hj⟩
              · cases hgd
          have skip : Region.wanted o (yielded ops a.tmps) = false → y.d = .tup [] → y.δ = [] → wpOp P ops (fun e a' w' => ∃ s' M', s'.n = s.n ∧ Q e s' ∧ SimA s' a' w' M' ∧ Grows s.n w M w' M') i (wpAny P .any ops (fun e a' w' => ∃ s' M', s'.n = s.n ∧ Q e s' ∧ SimA s' a' w' M' ∧ Grows s.n w M w' M') fuel (L.setIfInBounds i true)) a w1 := fun hnw e1 e2 => by
            unfold wpOp
            simp only [ho, hnw, Bool.false_eq_true, if_false]
            obtain ⟨q1, q2⟩ := step_same (w' := w1) hsim.sim rfl
            refine next _ w1 M1 ?_ hg
            rw [e1, e2, hyo]
            exact simA_put hsim q1 (.tup [] #[] rfl (by simp)) (δ := []) (by simp [St.inr]) hsim.sim o.dst
          rcases hg2 with ⟨b, hb, hyes, hno⟩ | ⟨hb, e1, e2⟩
          · have hbS : nth S.sl t = .bool b := by
              rw [← hslT t (by simp [looks, hgd])]; exact hb
            have hyl : yielded ops a.tmps j = some b := by
              have ht : t < S.sl.length := by
                refine Nat.lt_of_not_le fun hle => ?_
                simp [nth, List.getD, List.getElem?_eq_none hle] at hbS
              have h1 := nth_get ht
              rw [hbS] at h1
              have ht2 : t < a.tmps.size := by rw [hsim.size]; exact ht
              have h2 := hsim.sl t _ a.tmps[t] h1 (by simp [ht2])
              generalize hv : a.tmps[t] = v at h2
              cases h2 with
              | bool _ =>
                unfold yielded
                rw [hj]
                simp [ht2, hv]
            by_cases hbw : b = want
            · exact run1 (by rw [hyo]; exact hyes hbw) (by simp [Region.wanted, hgo, hyl, hbw])
            · exact skip (by simp [Region.wanted, hgo, hyl, hbw]) (hno hbw).1 (hno hbw).2
          · have hbS : nth S.sl t = .tup [] := by
              rw [← hslT t (by simp [looks, hgd])]; exact hb
            have hyl : yielded ops a.tmps j = none := by
              have ht : t < S.sl.length := by
                refine Nat.lt_of_not_le fun hle => ?_
                simp [nth, List.getD, List.getElem?_eq_none hle] at hbS
              have h1 := nth_get ht
              rw [hbS] at h1
              have ht2 : t < a.tmps.size := by rw [hsim.size]; exact ht
              have h2 := hsim.sl t _ a.tmps[t] h1 (by simp [ht2])
              generalize hv : a.tmps[t] = v at h2
              cases h2 with
              | tup _ vs hl hh =>
                unfold yielded
                rw [hj]
                simp [ht2, hv]
            exact skip (by simp [Region.wanted, hgo, hyl]) e1 e2
        · exact hg2.elim
  obtain ⟨q1, q2⟩ := step_same (w' := { w with drawn := w.drawn + 1 }) hs.sim rfl
  have hs' : SimA s a { w with drawn := w.drawn + 1 } M := ⟨hs.defers, hs.size, fun t d v hd hv => (hs.sl t d v hd hv).step q1, q2⟩
  refine go ops.size _ a _ M (by simp) (by simp) ?_ ?_ (q1.grows _)
  · intro i j hj hi hb
    simp [Array.getD] at hi
  · have : wr ys 0 (fun j => (Array.replicate ops.size false).getD j false) s = s := by
      have z0 : ∀ (l : List Out) (k : Nat) (s : St), wr l k (fun _ => false) s = s := by
        intro l
        induction l with
        | nil => intros; rfl
        | cons y l ih => intro k s; simp only [wr, Bool.false_eq_true, if_false]; exact ih _ _
      rw [wr_congr (m2 := fun _ => false) ys 0 s (fun i hi => by simp [Array.getD]), z0]
    rw [this]; exact hs'

end Abs
end Go.Proofs.Ytokdeeagghhliaa
