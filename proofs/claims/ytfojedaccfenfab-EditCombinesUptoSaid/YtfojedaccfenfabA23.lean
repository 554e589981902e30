/- Regions whose order is left open, as equations for the symbolic run. -/
import Derived.Test.YtfojedaccfenfabA22
namespace Go.Proofs.Ytfojedaccfenfab
namespace Abs
set_option linter.unusedVariables false

variable {P : Program} {s V : St}

theorem at_det {b ver : Nat} {K : List D → Prop} (ha : V.at b ver K) : ∃ cs, K cs ∧ ∀ K' : List D → Prop, K' cs → V.at b ver K' := by
  unfold St.at at ha ⊢
  generalize V.blk b = x at ha
  cases x with
  | mk v c => cases c <;> first | exact ha.elim | exact ⟨_, ha.2, fun K' h => ⟨ha.1, h⟩⟩

theorem new_det {dst : Option Nat} {con : Con} {K : Nat → Nat → Chg → Prop} (ha : V.new dst con K) : ∃ a b c, K a b c ∧ ∀ K' : Nat → Nat → Chg → Prop, K' a b c → V.new dst con K' := by
  unfold St.new at ha ⊢
  cases dst with
  | none => exact ha.elim
  | some t => exact ⟨_, _, _, ha.2.2, fun K' h => ⟨ha.1, ha.2.1, h⟩⟩

theorem fill_det {K : List D → Prop} : ∀ (l : List (Nat × Nat × D)) (cs : List D), fillD cs l K → ∃ ds, K ds ∧ ∀ K' : List D → Prop, K' ds → fillD cs l K'
  | [], cs, h => ⟨cs, h, fun K' h => h⟩
  | (_, _, _) :: l, cs, h => by
    obtain ⟨ds, h1, h2⟩ := fill_det l _ h.2.2.2
    exact ⟨ds, h1, fun K' h' => ⟨h.1, h.2.1, h.2.2.1, h2 K' h'⟩⟩

theorem srcOf_det {sz : Nat} {d : D} {K : Nat → List D → Prop} (ha : srcOf V sz d K) : ∃ a b, K a b ∧ ∀ K' : Nat → List D → Prop, K' a b → srcOf V sz d K' := by
  unfold srcOf at ha ⊢
  split at ha
  · exact ⟨_, _, ha, fun K' h => h⟩
  · exact ⟨_, _, ha, fun K' h => h⟩
  · exact ⟨_, _, ha.2, fun K' h => ⟨ha.1, h⟩⟩
  · obtain ⟨cs, h1, h2⟩ := at_det ha.2
    exact ⟨_, _, h1.2, fun K' h => ⟨ha.1, h2 _ ⟨h1.1, h⟩⟩⟩
  · exact ha.elim

theorem bounds_det {lo hi : Option D} {n : Nat} {K : Nat → Nat → Prop} (ha : bounds lo hi n K) : ∃ a b, K a b ∧ ∀ K' : Nat → Nat → Prop, K' a b → bounds lo hi n K' := by
  unfold bounds at ha ⊢
  split at ha
  · exact ⟨_, _, ha, fun K' h => h⟩
  · exact ⟨_, _, ha.2.2, fun K' h => ⟨ha.1, ha.2.1, h⟩⟩
  · exact ⟨_, _, ha.2.2, fun K' h => ⟨ha.1, ha.2.1, h⟩⟩
  · exact ⟨_, _, ha.2.2.2, fun K' h => ⟨ha.1, ha.2.1, ha.2.2.1, h⟩⟩
  · exact ha.elim

theorem ld_det {agg : Bool} {k : Nat} {cs : List D} {off : Nat} {K : D → Prop} (ha : ld agg k cs off K) : ∃ d, K d ∧ ∀ K' : D → Prop, K' d → ld agg k cs off K' := by
  cases agg <;> simp only [ld, Bool.false_eq_true, if_true, if_false] at ha ⊢ <;> exact ⟨_, ha.2, fun K' h => ⟨ha.1, h⟩⟩

theorem eqAll_det (ks : List Nat) (xs ys : List D) (K : Bool → Prop) : eqAll ks xs ys K → ∃ b, K b ∧ ∀ K' : Bool → Prop, K' b → eqAll ks xs ys K' := by
  induction ks, xs, ys, K using eqAll.induct with
  | case1 K => intro h; exact ⟨_, h, fun _ h => h⟩
  | case2 ks k a xs k' b ys K ih => intro h; obtain ⟨c, q1, q2⟩ := ih h.2; exact ⟨_, q1, fun K' h' => ⟨h.1, q2 _ h'⟩⟩
  | case3 ks a xs b ys K ih => intro h; obtain ⟨c, q1, q2⟩ := ih h; exact ⟨_, q1, fun K' h' => q2 _ h'⟩
  | case4 ks a xs b ys K ih => intro h; obtain ⟨c, q1, q2⟩ := ih h; exact ⟨_, q1, fun K' h' => q2 _ h'⟩
  | case5 ks xs ys K h1 h2 h3 h4 =>
    intro h
    unfold eqAll at h
    split at h
    · exact (h1 rfl rfl rfl).elim
    · exact (h2 _ _ _ _ _ _ _ rfl rfl rfl).elim
    · exact (h3 _ _ _ _ _ rfl rfl rfl).elim
    · exact (h4 _ _ _ _ _ rfl rfl rfl).elim
    · exact h.elim

theorem binD_det {op : BinOp} {x y : D} {K : D → Prop} (ha : binD op x y K) : ∃ d, K d ∧ ∀ K' : D → Prop, K' d → binD op x y K' := by
  unfold binD at ha ⊢
  split at ha
  · obtain ⟨h1, h2⟩ := ha
    cases op <;> simp only at h2 ⊢ <;> first | exact h2.elim | exact ⟨_, h2, fun K' h => ⟨h1, h⟩⟩ | exact ⟨_, h2.2, fun K' h => ⟨h1, h2.1, h⟩⟩
  · cases op <;> simp only at ha ⊢ <;> first | exact ha.elim | exact ⟨_, ha, fun K' h => h⟩
  · exact ha.elim

theorem run_det {dst : Option Nat} {K : D → Chg → Prop} {op : AOp} (hr : run V dst K op) : ∃ d δ, K d δ ∧ run V dst (fun d' δ' => d' = d ∧ δ' = δ) op := by
  cases op <;> simp only [run] at hr ⊢
  case mov => exact ⟨_, _, hr, rfl, rfl⟩
  case pick c a b => split at hr <;> first | exact ⟨_, _, hr, rfl, rfl⟩ | exact hr.elim
  case alloc z => obtain ⟨a, b, c, h1, h2⟩ := new_det hr; exact ⟨_, _, h1, h2 _ ⟨rfl, rfl⟩⟩
  case box x => obtain ⟨a, b, c, h1, h2⟩ := new_det hr.2; exact ⟨_, _, h1, hr.1, h2 _ ⟨rfl, rfl⟩⟩
  case build z ps => obtain ⟨ds, h1, h2⟩ := fill_det _ _ hr; exact ⟨_, _, h1, h2 _ ⟨rfl, rfl⟩⟩
  case buildSlice sz z len ps =>
    obtain ⟨ds, h1, h2⟩ := fill_det _ _ hr
    obtain ⟨a, b, c, h3, h4⟩ := new_det h1
    exact ⟨_, _, h3, h2 _ (h4 _ ⟨rfl, rfl⟩)⟩
  case load ag k a =>
    split at hr
    · obtain ⟨d, h1, h2⟩ := ld_det hr; exact ⟨_, _, h1, h2 _ ⟨rfl, rfl⟩⟩
    · obtain ⟨cs, h1, h2⟩ := at_det hr
      obtain ⟨d, h3, h4⟩ := ld_det h1
      exact ⟨_, _, h3, h2 _ (h4 _ ⟨rfl, rfl⟩)⟩
    · exact hr.elim
  case store k a x =>
    split at hr
    · obtain ⟨cs, h1, h2⟩ := at_det hr
      exact ⟨_, _, h1.2.2.2, h2 _ ⟨h1.1, h1.2.1, h1.2.2.1, rfl, rfl⟩⟩
    · exact hr.elim
  case bin op x y => obtain ⟨d, h1, h2⟩ := binD_det hr; exact ⟨_, _, h1, h2 _ ⟨rfl, rfl⟩⟩
  case eqb ng x y => split at hr <;> first | exact ⟨_, _, hr, rfl, rfl⟩ | exact hr.elim
  case nileq k ng x =>
    split at hr
    case h_6 l _ =>
      by_cases hl : l = []
      · exact ⟨_, _, hr.1 hl, fun _ => ⟨rfl, rfl⟩, fun h => (h hl).elim⟩
      · exact ⟨_, _, hr.2 hl, fun h => (hl h).elim, fun _ => ⟨rfl, rfl⟩⟩
    case h_7 len _ =>
      obtain ⟨cs, h1, h2⟩ := at_det hr
      by_cases hl : len = 0
      · exact ⟨_, _, h1.1 hl, h2 _ ⟨fun _ => ⟨rfl, rfl⟩, fun h => (h hl).elim⟩⟩
      · exact ⟨_, _, h1.2 hl, h2 _ ⟨fun h => (hl h).elim, fun _ => ⟨rfl, rfl⟩⟩⟩
    case h_10 =>
      obtain ⟨cs, h1, h2⟩ := at_det hr
      exact ⟨_, _, h1.2, h2 _ ⟨h1.1, rfl, rfl⟩⟩
    all_goals first | exact ⟨_, _, hr, rfl, rfl⟩ | exact hr.elim
  case eqs ng ks x y =>
    split at hr
    · obtain ⟨b, h1, h2⟩ := eqAll_det _ _ _ _ hr; exact ⟨_, _, h1, h2 _ ⟨rfl, rfl⟩⟩
    · exact hr.elim
  case un u x => split at hr <;> first | exact ⟨_, _, hr, rfl, rfl⟩ | exact hr.elim
  case conv k x => split at hr <;> first | exact ⟨_, _, hr, rfl, rfl⟩ | exact hr.elim
  case nilck x =>
    split at hr
    · exact ⟨_, _, hr, rfl, rfl⟩
    · exact ⟨_, _, hr, rfl, rfl⟩
    · obtain ⟨cs, h1, h2⟩ := at_det hr; exact ⟨_, _, h1.2, h2 _ ⟨h1.1, rfl, rfl⟩⟩
    · exact hr.elim
  case mkfn f cs => exact ⟨_, _, hr, rfl, rfl⟩
  case mkslice sz by' z l c =>
    split at hr
    · obtain ⟨a, b, c, h1, h2⟩ := new_det hr.2.2.2.2; exact ⟨_, _, h1, hr.1, hr.2.1, hr.2.2.1, hr.2.2.2.1, h2 _ ⟨rfl, rfl⟩⟩
    · exact hr.elim
  case slice sz x lo hi =>
    split at hr
    · obtain ⟨a, b, h1, h2⟩ := bounds_det hr.2; exact ⟨_, _, h1, hr.1, h2 _ ⟨rfl, rfl⟩⟩
    · obtain ⟨cs, h1, h2⟩ := at_det hr.2
      obtain ⟨a, b, h3, h4⟩ := bounds_det h1
      exact ⟨_, _, h3, hr.1, h2 _ (h4 _ ⟨rfl, rfl⟩)⟩
    · obtain ⟨a, b, h1, h2⟩ := bounds_det hr; exact ⟨_, _, h1, h2 _ ⟨rfl, rfl⟩⟩
    · obtain ⟨a, b, h1, h2⟩ := bounds_det hr; exact ⟨_, _, h1, h2 _ ⟨rfl, rfl⟩⟩
    · exact hr.elim
  case slicez x => split at hr <;> first | exact ⟨_, _, hr, rfl, rfl⟩ | exact hr.elim
  case slicea m sz x lo hi =>
    split at hr
    · obtain ⟨cs, h1, h2⟩ := at_det hr
      obtain ⟨a, b, h3, h4⟩ := bounds_det h1.2.2
      exact ⟨_, _, h3, h2 _ ⟨h1.1, h1.2.1, h4 _ ⟨rfl, rfl⟩⟩⟩
    · exact hr.elim
  case fieldAddr off x =>
    split at hr
    · exact ⟨_, _, hr, rfl, rfl⟩
    · obtain ⟨cs, h1, h2⟩ := at_det hr; exact ⟨_, _, h1.2, h2 _ ⟨h1.1, rfl, rfl⟩⟩
    · exact hr.elim
  case field ag off k x =>
    split at hr
    · obtain ⟨d, h1, h2⟩ := ld_det hr; exact ⟨_, _, h1, h2 _ ⟨rfl, rfl⟩⟩
    · exact hr.elim
  case idxS sz x i =>
    split at hr
    · exact ⟨_, _, hr.2.2.2, hr.1, hr.2.1, hr.2.2.1, rfl, rfl⟩
    · obtain ⟨cs, h1, h2⟩ := at_det hr.2.2.2; exact ⟨_, _, h1, hr.1, hr.2.1, hr.2.2.1, h2 _ ⟨rfl, rfl⟩⟩
    · exact hr.elim
  case idxA m sz x i =>
    split at hr
    · obtain ⟨cs, h1, h2⟩ := at_det hr.2.2; exact ⟨_, _, h1.2, hr.1, hr.2.1, h2 _ ⟨h1.1, rfl, rfl⟩⟩
    · exact ⟨_, _, hr.2.2, hr.1, hr.2.1, rfl, rfl⟩
    · exact hr.elim
  case idx ag m sz x i =>
    split at hr
    · obtain ⟨d, h1, h2⟩ := ld_det hr.2.2; exact ⟨_, _, h1, hr.1, hr.2.1, h2 _ ⟨rfl, rfl⟩⟩
    · exact hr.elim
  case len x =>
    split at hr
    · exact ⟨_, _, hr, rfl, rfl⟩
    · exact ⟨_, _, hr, rfl, rfl⟩
    · exact ⟨_, _, hr, rfl, rfl⟩
    · obtain ⟨cs, h1, h2⟩ := at_det hr; exact ⟨_, _, h1, h2 _ ⟨rfl, rfl⟩⟩
    · exact hr.elim
  case slen x => split at hr <;> first | exact ⟨_, _, hr, rfl, rfl⟩ | exact hr.elim
  case append sz by' x y =>
    obtain ⟨m, news, ⟨h0, hr⟩, hs⟩ := srcOf_det hr
    split at hr
    · obtain ⟨a, b, c, h1, h2⟩ := new_det hr.2; exact ⟨_, _, h1, hs _ ⟨h0, hr.1, h2 _ ⟨rfl, rfl⟩⟩⟩
    · obtain ⟨a, b, c, h1, h2⟩ := new_det hr.2; exact ⟨_, _, h1, hs _ ⟨h0, hr.1, h2 _ ⟨rfl, rfl⟩⟩⟩
    · obtain ⟨cs, h1, h2⟩ := at_det hr.2
      exact ⟨_, _, h1.2.2, hs _ ⟨h0, hr.1, h2 _ ⟨h1.1, h1.2.1, rfl, rfl⟩⟩⟩
    · exact hr.elim
  case appendz sz by' z x m =>
    split at hr
    · obtain ⟨a, b, c, h1, h2⟩ := new_det hr.2.2; exact ⟨_, _, h1, hr.1, hr.2.1, h2 _ ⟨rfl, rfl⟩⟩
    · obtain ⟨a, b, c, h1, h2⟩ := new_det hr.2.2; exact ⟨_, _, h1, hr.1, hr.2.1, h2 _ ⟨rfl, rfl⟩⟩
    · exact hr.elim
  case capz x => split at hr <;> first | exact ⟨_, _, hr, rfl, rfl⟩ | exact hr.elim
  case minmax mx xs => split at hr <;> first | exact ⟨_, _, hr.2.2, hr.1, hr.2.1, rfl, rfl⟩ | exact hr.elim
  case extract x i => split at hr <;> first | exact ⟨_, _, hr.2, hr.1, rfl, rfl⟩ | exact hr.elim

def covB (n : Nat) (dc : List (List Nat)) (k : Nat) (x : DOper) (δ : Chg) : Prop := ∀ p ∈ δ, p.1 ∈ covOf n dc k x ∧ p.1 ∉ hidOf n dc x

def stepQ (P : Program) (dc : List (List Nat)) (k : Nat) (x : DOper) (s : St) (K : D → Chg → Prop) : Prop :=
  match x.o.op with
  | .call _ _ | .callv _ _ => ∃ d δ, stepV P x.o (s.hide (hidOf s.n dc x)) (fun d' δ' => d' = d ∧ δ' = δ) ∧ covB s.n dc k x δ ∧ K d δ
  | op => run (s.hide (hidOf s.n dc x)) x.o.dst (fun d δ => covB s.n dc k x δ ∧ K d δ) op

theorem stepQ_adr {dc : List (List Nat)} {k : Nat} {x : DOper} {K : D → Chg → Prop} (h : stepQ P dc k x s K) : adr1 P dc k x s K := by
  unfold stepQ at h
  unfold adr1
  split at h
  · exact h
  · exact h
  · rename_i hc1 hc2
    obtain ⟨d, δ, ⟨h1, h2⟩, h3⟩ := run_det h
    refine ⟨d, δ, ?_, h1, h2⟩
    unfold stepV
    split
    · rename_i f args e; exact (hc1 f args e).elim
    · rename_i f args e; exact (hc2 f args e).elim
    · exact h3

def adq (P : Program) (dc : List (List Nat)) : List DOper → Nat → St → (St → Prop) → Prop
  | [], _, s, K => K s
  | x :: r, k, s, K => match x.o.guard with
    | .always => stepQ P dc k x s fun d δ => adq P dc r (k + 1) (s.fin x.o.dst d δ) K
    | .on t want => match nth s.sl t with
      | .bool b => condG b want (stepQ P dc k x s fun d δ => adq P dc r (k + 1) (s.fin x.o.dst d δ) K) (adq P dc r (k + 1) (s.fin x.o.dst .top []) K)
      | _ => False
    | .bad => False

theorem adr1_mono {dc : List (List Nat)} {k : Nat} {x : DOper} {K K' : D → Chg → Prop} (hk : ∀ d δ, K d δ → K' d δ) (h : adr1 P dc k x s K) : adr1 P dc k x s K' :=
  let ⟨d, δ, h1, h2, h3⟩ := h; ⟨d, δ, h1, h2, hk d δ h3⟩

theorem adq_adr {dc : List (List Nat)} {K : St → Prop} : ∀ (l : List DOper) (k : Nat) (s : St), adq P dc l k s K → adr P dc l k s K
  | [], _, _, h => h
  | x :: r, k, s, h => by
    unfold adq at h
    unfold adr
    cases hg : x.o.guard <;> rw [hg] at h
    · exact adr1_mono (fun d δ h => adq_adr r _ _ h) (stepQ_adr h)
    · simp only at h ⊢
      split at h
      · rename_i hb
        rw [condG_iff] at h
        rw [hb]
        exact ⟨fun e => adr1_mono (fun d δ h => adq_adr r _ _ h) (stepQ_adr (h.1 e)), fun e => adq_adr r _ _ (h.2 e)⟩
      · exact h.elim
    · exact h.elim

noncomputable def adqS (P : Program) (dc : List (List Nat)) : List DOper → Nat → St → (St → Prop) → Prop := Sealed (adq P dc)
noncomputable def stepQS (P : Program) (dc : List (List Nat)) : Nat → DOper → St → (D → Chg → Prop) → Prop := Sealed (stepQ P dc)
theorem adqS_eq (P : Program) (dc : List (List Nat)) : adqS P dc = adq P dc := sealed_eq _
theorem stepQS_eq (P : Program) (dc : List (List Nat)) : stepQS P dc = stepQ P dc := sealed_eq _

theorem adrawq {os : List DOper} {Q : Exit → St → Prop} (hm : P.follows .mixedOrders = true) (dc : List (List Nat)) (h : adqS P dc os 0 s (Q .normal)) : ADraw P os Q s :=
  adraw hm dc (adq_adr _ _ _ (by rw [adqS_eq] at h; exact h))

section
variable {n : Nat} {sl : List D} {h : Heap} {lc : List Blk} {K : St → Prop} {dc : List (List Nat)} {k : Nat} {r : List DOper}
theorem y_adq0 : adqS P dc [] k (St.mk n sl h lc) K = K (St.mk n sl h lc) := by rw [adqS_eq]; rfl
theorem y_adq (dst : Option Nat) (op : AOp) (ss es : List Nat) : adqS P dc (⟨⟨dst, op, .always⟩, ss, es⟩ :: r) k (St.mk n sl h lc) K =
    stepQS P dc k ⟨⟨dst, op, .always⟩, ss, es⟩ (St.mk n sl h lc) fun d δ => adqS P dc r (k + 1) (St.fin (St.mk n sl h lc) dst d δ) K := by rw [adqS_eq, stepQS_eq]; rfl
theorem y_adq_on (dst : Option Nat) (op : AOp) (t : Nat) (want : Bool) (ss es : List Nat) : adqS P dc (⟨⟨dst, op, .on t want⟩, ss, es⟩ :: r) k (St.mk n sl h lc) K =
    (match nth sl t with
      | .bool b => condG b want (stepQS P dc k ⟨⟨dst, op, .on t want⟩, ss, es⟩ (St.mk n sl h lc) fun d δ => adqS P dc r (k + 1) (St.fin (St.mk n sl h lc) dst d δ) K) (adqS P dc r (k + 1) (St.fin (St.mk n sl h lc) dst .top []) K)
      | _ => False) := by rw [adqS_eq, stepQS_eq]; rfl
theorem y_stepQ (dst : Option Nat) (op : AOp) (g : AGuard) (ss es : List Nat) (K : D → Chg → Prop) (hc : isCall op = false) : stepQS P dc k ⟨⟨dst, op, g⟩, ss, es⟩ (St.mk n sl h lc) K =
    run (St.hide (St.mk n sl h lc) (hidOf n dc ⟨⟨dst, op, g⟩, ss, es⟩)) dst (fun d δ => covB n dc k ⟨⟨dst, op, g⟩, ss, es⟩ δ ∧ K d δ) op := by
  rw [stepQS_eq]; cases op <;> first | rfl | cases hc
theorem y_stepQ_call (dst : Option Nat) (f : FuncId) (args : List Opd) (g : AGuard) (ss es : List Nat) (K : D → Chg → Prop) : stepQS P dc k ⟨⟨dst, .call f args, g⟩, ss, es⟩ (St.mk n sl h lc) K =
    ∃ d δ, stepV P ⟨dst, .call f args, g⟩ (St.hide (St.mk n sl h lc) (hidOf n dc ⟨⟨dst, .call f args, g⟩, ss, es⟩)) (fun d' δ' => d' = d ∧ δ' = δ) ∧ covB n dc k ⟨⟨dst, .call f args, g⟩, ss, es⟩ δ ∧ K d δ := by rw [stepQS_eq]; rfl
theorem y_hid (x : AOper) (ss es : List Nat) : hidOf n dc ⟨x, ss, es⟩ = ss.map (n + ·) ++ es.flatMap fun j => dc.getD j [] := rfl
theorem y_hide0 : St.hide (St.mk n sl h lc) [] = St.mk n sl h lc := rfl
theorem y_hide (t : Nat) (bs : List Nat) : St.hide (St.mk n sl h lc) ((n + t) :: bs) = St.hide (St.mk n sl h (lc.set t ⟨0, .veil⟩)) bs := by
  simp [St.hide, St.app, St.app1, Nat.not_lt.2 (Nat.le_add_right n t)]
theorem y_cov0 (x : DOper) : covB n dc k x [] = True := by simp [covB]
theorem y_cov1 (dst : Option Nat) (op : AOp) (g : AGuard) (ss es : List Nat) (b : Nat) (B : Blk) : covB n dc k ⟨⟨dst, op, g⟩, ss, es⟩ [(b, B)] =
    (b ∈ (if isNew op then dst.toList else []).map (n + ·) ++ cond (isEff op) (dc.getD k []) [] ∧ b ∉ ss.map (n + ·) ++ es.flatMap fun j => dc.getD j []) := by
  simp [covB, covOf, hidOf, owns]
end

/-! ### calls in such regions -/
theorem Pure.draw {f : FuncId} {ds : List D} {r : D} (hp : Pure P f ds r) {args : List Opd} {dst : Option Nat} {g : AGuard} (ha : args.map V.val = ds) : stepV P ⟨dst, .call f args, g⟩ V fun d' δ' => d' = r ∧ δ' = [] := by
  intro s hs
  rw [ha]
  exact hp.call rfl ⟨rfl, rfl⟩

theorem Sub.hp {xs : List Opd} (hs : Sub s V xs) {b ver : Nat} {cs : List D} (h : V.hp b = ⟨ver, .cells cs⟩) : s.hp b = ⟨ver, .cells cs⟩ := by
  have h' : V.blk b = ⟨ver, .cells cs⟩ := h
  rcases hs.blk b with h1 | h1
  · rw [h'] at h1; cases h1
  · rw [← h', h1]; rfl

theorem fz_drawn {ver len : Nat} {l : List Int} {t : Nat} (hs : Sub s V []) (hb : V.lc[t]? = some ⟨ver, .cells (l.map (.int .i64))⟩) (hl : len = l.length) : Wk (FX (V.n + V.lc.length) s.hp) (.ref 1 (V.n + t) ver 0 len) (.lst (l.map (.int .i64))) := by
  have ht : t < V.lc.length := (List.getElem?_eq_some_iff.1 hb).1
  refine fz_ints (by omega) (hs.hp ?_) hl
  show mrg V.n V.h V.lc (V.n + t) = _
  rw [mrg_loc]; simp [List.getD, hb]

theorem Pure.drawF {f : FuncId} {ds : List D} {r : D} (hp : Pure P f ds r) (hr : Sc r) {args : List Opd} {dst : Option Nat} {g : AGuard}
    (ha : ∀ s, Sub s V [] → WkL (FX (V.n + V.lc.length) s.hp) (args.map V.val) ds) : stepV P ⟨dst, .call f args, g⟩ V fun d' δ' => d' = r ∧ δ' = [] := by
  intro s hs
  exact hp.callF hr rfl (ha s hs) ⟨rfl, rfl⟩

theorem Fresh.draw {f : FuncId} {ds : List D} {sz m : Nat} {out : List D} (ha : Fresh P f ds sz out m) (hlow : ∀ c ∈ out, Low 0 c) {args : List Opd} {t : Nat} {g : AGuard} (hargs : args.map V.val = ds)
    (ht : t < V.lc.length) (ho : (V.lc.getD t blk0).con.isOpq = false) :
    stepV P ⟨some t, .call f args, g⟩ V fun d' δ' => d' = .ref sz (V.n + t) (lver V.lc t) 0 m ∧ δ' = [(V.n + t, ⟨lver V.lc t, .cells out⟩)] := by
  intro s hs
  rw [hargs]
  have e1 : V.blk (V.n + t) = V.lc.getD t blk0 := mrg_loc ..
  have e2 : s.blk (V.n + t) = s.lc.getD t blk0 := by rw [hs.n]; exact mrg_loc ..
  have e3 : V.lc.getD t blk0 = s.lc.getD t blk0 := by
    rcases hs.blk (V.n + t) with h | h
    · rw [e1] at h; rw [h] at ho; cases ho
    · rw [e1, e2] at h; exact h
  have e4 : lver V.lc t = lver s.lc t := by unfold lver; rw [e3]
  rw [hs.n, hs.len, e4]
  cases s with
  | mk n sl h lc => exact ha.call hlow rfl rfl (by rw [← hs.len]; exact ht) (by rw [← e3]; exact ho) ⟨rfl, rfl⟩

end Abs
end Go.Proofs.Ytfojedaccfenfab
