/- Regions whose order is left open: run in the order of the text, each operation with the blocks hidden that the operations beside it change. -/
import Derived.Test.YtfojedaccfenfabA17
namespace Go.Proofs.Ytfojedaccfenfab
namespace Abs
set_option linter.unusedVariables false

def binding (o : Oper) : List Nat := (o.after.toList.filter (Region.binds .any)).map (·.on)
def preOf (ops : List Oper) : List Nat := ops.foldl (fun acc o => acc ++ [(binding o).foldl (fun m e => m ||| 2 ^ e ||| acc.getD e 0) 0]) []
def bit (pre : List Nat) (i j : Nat) : Bool := (pre.getD i 0).testBit j

def looks (o : AOper) : List Nat := (match o.guard with | .on t _ => [t] | _ => []) ++ (opds o.op).filterMap fun | .tmp t => some t | _ => none
def apartA (x y : AOper) : Bool :=
  (match x.dst with | some d => !(looks y).contains d && y.dst != some d | none => true) && (match y.dst with | some d => !(looks x).contains d | none => true)

def isNew : AOp → Bool
  | .alloc _ | .box _ | .buildSlice .. | .mkslice .. | .append .. | .appendz .. | .call .. | .callv .. => true
  | _ => false
def isEff : AOp → Bool
  | .store .. | .append .. | .call .. | .callv .. => true
  | _ => false

def owns (o : AOper) : List Nat := if isNew o.op then o.dst.toList else []

def preOk (ops : List Oper) (pre : List Nat) : Bool :=
  (List.range ops.length).all fun i => match ops[i]? with
    | some o => (binding o).all (fun e => decide (e < i)) && (List.range ops.length).all fun j => !bit pre i j || (decide (j < i) && (binding o).any fun e => j == e || bit pre e j)
    | none => true
def unOf (m : Nat) (pre : List Nat) (i : Nat) : List Nat := (List.range m).filter fun j => j != i && !bit pre i j && !bit pre j i
def apartOk (os : List AOper) (pre : List Nat) : Bool :=
  (List.range os.length).all fun i => (List.range i).all fun j => bit pre i j || (match os[i]?, os[j]? with | some x, some y => apartA x y | _, _ => true)

/-- an operation; the slots whose own blocks, and the operations whose declared blocks, are hidden from it -/
structure DOper where
  o : AOper
  slots : List Nat
  effs : List Nat

def dop (os : List AOper) (pre : List Nat) (i : Nat) (o : AOper) : DOper :=
  ⟨o, (unOf os.length pre i).flatMap (fun j => match os[j]? with | some x => owns x | none => []), (unOf os.length pre i).filter fun j => match os[j]? with | some x => isEff x.op | none => false⟩
def dopsGo (os : List AOper) (pre : List Nat) : List AOper → Nat → List DOper
  | [], _ => []
  | o :: r, i => dop os pre i o :: dopsGo os pre r (i + 1)
def dops (os : List AOper) (pre : List Nat) : List DOper := dopsGo os pre os 0

def hidOf (n : Nat) (dc : List (List Nat)) (x : DOper) : List Nat := x.slots.map (n + ·) ++ x.effs.flatMap fun j => dc.getD j []
def covOf (n : Nat) (dc : List (List Nat)) (k : Nat) (x : DOper) : List Nat := (owns x.o).map (n + ·) ++ cond (isEff x.o.op) (dc.getD k []) []

def adr1 (P : Program) (dc : List (List Nat)) (k : Nat) (x : DOper) (s : St) (K : D → Chg → Prop) : Prop :=
  ∃ d δ, stepV P x.o (s.hide (hidOf s.n dc x)) (fun d' δ' => d' = d ∧ δ' = δ) ∧ (∀ p ∈ δ, p.1 ∈ covOf s.n dc k x ∧ p.1 ∉ hidOf s.n dc x) ∧ K d δ

def adr (P : Program) (dc : List (List Nat)) : List DOper → Nat → St → (St → Prop) → Prop
  | [], _, s, K => K s
  | x :: r, k, s, K => match x.o.guard with
    | .always => adr1 P dc k x s fun d δ => adr P dc r (k + 1) (s.fin x.o.dst d δ) K
    | .on t want => match nth s.sl t with
      | .bool b => (b = want → adr1 P dc k x s fun d δ => adr P dc r (k + 1) (s.fin x.o.dst d δ) K) ∧ (b ≠ want → adr P dc r (k + 1) (s.fin x.o.dst .top []) K)
      | _ => False
    | .bad => False

/-! ### what the listed operations leave -/
structure Out where
  x : DOper
  d : D
  δ : Chg

def wr : List Out → Nat → (Nat → Bool) → St → St
  | [], _, _, s => s
  | y :: r, k, m, s => wr r (k + 1) m (if m k then s.fin y.x.o.dst y.d y.δ else s)

structure Eqv (s s' : St) : Prop where
  n : s'.n = s.n
  len : s'.lc.length = s.lc.length
  slen : s'.sl.length = s.sl.length
  sl : ∀ t, nth s'.sl t = nth s.sl t
  blk : ∀ b, s'.blk b = s.blk b

variable {P : Program} {s : St} {a : Act} {w : World} {M : Ctx}

theorem SimA.eqv {s' : St} (h : SimA s a w M) (e : Eqv s s') : SimA s' a w M := by
  have h1 : s'.sl = s.sl := List.ext_getElem? fun i => by
    by_cases hi : i < s.sl.length
    · rw [nth_get hi, nth_get (by rw [e.slen]; exact hi), e.sl]
    · rw [List.getElem?_eq_none (l := s'.sl) (by rw [e.slen]; omega), List.getElem?_eq_none (l := s.sl) (by omega)]
  have h2 : s'.hp = s.hp := funext e.blk
  exact ⟨h.defers, by rw [h1]; exact h.size, by rw [h1]; exact h.sl, by rw [h2]; exact h.sim⟩

theorem fin_shape (s : St) (dst : Option Nat) (d : D) (δ : Chg) : (s.fin dst d δ).n = s.n ∧ (s.fin dst d δ).lc.length = s.lc.length ∧ (s.fin dst d δ).sl.length = s.sl.length := by
  refine ⟨rfl, (app_shape δ s).2.1, ?_⟩
  cases dst <;> simp [St.fin, setD]

theorem fin_blk (s : St) (dst : Option Nat) (d : D) (δ : Chg) (b : Nat) : (s.fin dst d δ).blk b = (s.app δ).blk b := by
  unfold St.blk
  rw [(app_shape δ s).1]; rfl

theorem nth_set {l : List D} {i j : Nat} {d : D} : nth (l.set i d) j = if i = j ∧ j < l.length then d else nth l j := by
  unfold nth
  simp only [List.getD_eq_getElem?_getD, List.getElem?_set]
  by_cases h : i = j
  · subst h; by_cases hl : i < l.length <;> simp [hl]
  · simp [h]

theorem fin_sl (s : St) (dst : Option Nat) (d : D) (δ : Chg) (t : Nat) : nth (s.fin dst d δ).sl t = if dst = some t ∧ t < s.sl.length then d else nth s.sl t := by
  cases dst with
  | none => simp [St.fin, setD]
  | some k => simp [St.fin, setD, nth_set]

theorem wr_shape : ∀ (l : List Out) (k : Nat) (m : Nat → Bool) (s : St), (wr l k m s).n = s.n ∧ (wr l k m s).lc.length = s.lc.length ∧ (wr l k m s).sl.length = s.sl.length
  | [], _, _, s => ⟨rfl, rfl, rfl⟩
  | y :: r, k, m, s => by
    have h1 : (if m k then s.fin y.x.o.dst y.d y.δ else s).n = s.n ∧ (if m k then s.fin y.x.o.dst y.d y.δ else s).lc.length = s.lc.length ∧ (if m k then s.fin y.x.o.dst y.d y.δ else s).sl.length = s.sl.length := by
      split
      · exact fin_shape ..
      · exact ⟨rfl, rfl, rfl⟩
    obtain ⟨h2, h3, h4⟩ := wr_shape r (k + 1) m (if m k then s.fin y.x.o.dst y.d y.δ else s)
    exact ⟨h2.trans h1.1, h3.trans h1.2.1, h4.trans h1.2.2⟩

theorem wr_sl {t : Nat} {m1 m2 : Nat → Bool} : ∀ (l : List Out) (k : Nat) (s1 s2 : St), s1.sl.length = s2.sl.length → nth s1.sl t = nth s2.sl t →
    (∀ (i : Nat) (y : Out), l[i]? = some y → y.x.o.dst = some t → m1 (k + i) = m2 (k + i)) → nth (wr l k m1 s1).sl t = nth (wr l k m2 s2).sl t
  | [], _, _, _, _, h, _ => h
  | y :: r, k, s1, s2, hl, h, hm => by
    refine wr_sl r (k + 1) _ _ ?_ ?_ fun i z hz hd => by
      have := hm (i + 1) z (by simpa using hz) hd
      rwa [show k + 1 + i = k + (i + 1) by omega]
    · have e1 := (fin_shape s1 y.x.o.dst y.d y.δ).2.2
      have e2 := (fin_shape s2 y.x.o.dst y.d y.δ).2.2
      split <;> split <;> simp [e1, e2, hl]
    · by_cases hd : y.x.o.dst = some t
      · have := hm 0 y (by simp) hd
        simp only [Nat.add_zero] at this
        rw [this]
        split
        · rw [fin_sl, fin_sl, h, hl]
        · exact h
      · have e1 : ∀ s : St, nth (s.fin y.x.o.dst y.d y.δ).sl t = nth s.sl t := fun s => by rw [fin_sl, if_neg (fun e => hd e.1)]
        split <;> split <;> simp [e1, h]

theorem wr_blk {b : Nat} {m1 m2 : Nat → Bool} : ∀ (l : List Out) (k : Nat) (s1 s2 : St), s1.n = s2.n → s1.lc.length = s2.lc.length → s1.blk b = s2.blk b →
    (∀ (i : Nat) (y : Out), l[i]? = some y → (∃ p ∈ y.δ, p.1 = b) → m1 (k + i) = m2 (k + i)) → (wr l k m1 s1).blk b = (wr l k m2 s2).blk b
  | [], _, _, _, _, _, h, _ => h
  | y :: r, k, s1, s2, hn, hl, h, hm => by
    have f1 := fin_shape s1 y.x.o.dst y.d y.δ
    have f2 := fin_shape s2 y.x.o.dst y.d y.δ
    refine wr_blk r (k + 1) _ _ ?_ ?_ ?_ fun i z hz hd => by
      have := hm (i + 1) z (by simpa using hz) hd
      rwa [show k + 1 + i = k + (i + 1) by omega]
    · split <;> split <;> simp [f1.1, f2.1, hn]
    · split <;> split <;> simp [f1.2.1, f2.2.1, hl]
    · by_cases hd : ∃ p ∈ y.δ, p.1 = b
      · have := hm 0 y (by simp) hd
        simp only [Nat.add_zero] at this
        rw [this]
        split
        · rw [fin_blk, fin_blk]; exact (app_blk_same y.δ s2 s1 hn hl h)
        · exact h
      · have e1 : ∀ s : St, (s.fin y.x.o.dst y.d y.δ).blk b = s.blk b := fun s => by
          rw [fin_blk]; exact app_blk_ne _ _ fun p hp e => hd ⟨p, hp, e⟩
        split <;> split <;> simp [e1, h]

theorem wr_congr {m1 m2 : Nat → Bool} : ∀ (l : List Out) (k : Nat) (s : St), (∀ i, i < l.length → m1 (k + i) = m2 (k + i)) → wr l k m1 s = wr l k m2 s
  | [], _, _, _ => rfl
  | y :: r, k, s, hm => by
    have h0 := hm 0 (by simp)
    simp only [Nat.add_zero] at h0
    simp only [wr, h0]
    exact wr_congr r (k + 1) _ fun i hi => by
      have := hm (i + 1) (by simpa using hi)
      rwa [show k + 1 + i = k + (i + 1) by omega]

theorem wr_add {m m' : Nat → Bool} : ∀ (l : List Out) (k i : Nat) (s : St) (y : Out), l[i]? = some y → m (k + i) = false → m' (k + i) = true → (∀ j, j ≠ k + i → m' j = m j) →
    (∀ (j : Nat) (z : Out), i < j → l[j]? = some z → m (k + j) = true → (∀ t, y.x.o.dst = some t → z.x.o.dst ≠ some t) ∧ (∀ p ∈ y.δ, ∀ q ∈ z.δ, q.1 ≠ p.1)) →
    Eqv ((wr l k m s).fin y.x.o.dst y.d y.δ) (wr l k m' s)
  | [], _, _, _, _, h, _, _, _, _ => by simp at h
  | z :: r, k, 0, s, y, h, hf, ht, hm, hs => by
    simp only [List.getElem?_cons_zero, Option.some.injEq] at h
    subst h
    simp only [Nat.add_zero] at hf ht hm
    simp only [wr, hf, ht, if_true, Bool.false_eq_true, if_false]
    have c : wr r (k + 1) m' (s.fin z.x.o.dst z.d z.δ) = wr r (k + 1) m (s.fin z.x.o.dst z.d z.δ) := wr_congr r (k + 1) _ fun i hi => hm _ (by omega)
    rw [c]
    have s1 := wr_shape r (k + 1) m (s.fin z.x.o.dst z.d z.δ)
    have s2 := wr_shape r (k + 1) m s
    have s3 := fin_shape s z.x.o.dst z.d z.δ
    have s4 := fin_shape (wr r (k + 1) m s) z.x.o.dst z.d z.δ
    refine ⟨by rw [s1.1, s4.1, s2.1, s3.1], by rw [s1.2.1, s4.2.1, s2.2.1, s3.2.1], by rw [s1.2.2, s4.2.2, s2.2.2, s3.2.2], fun t => ?_, fun b => ?_⟩
    · rw [fin_sl, s2.2.2]
      by_cases hd : z.x.o.dst = some t ∧ t < s.sl.length
      · rw [if_pos hd]
        have : nth (wr r (k + 1) m (s.fin z.x.o.dst z.d z.δ)).sl t = nth (wr r (k + 1) (fun _ => false) (s.fin z.x.o.dst z.d z.δ)).sl t := wr_sl r (k + 1) _ _ rfl rfl fun i y hy hyd => by
          by_cases e : m (k + 1 + i) = true
          · exact ((hs (i + 1) y (by omega) (by simpa using hy) (by rwa [show k + (i + 1) = k + 1 + i by omega])).1 t hd.1 hyd).elim
          · simpa using e
        rw [this]
        have z0 : ∀ (l : List Out) (k : Nat) (s : St), wr l k (fun _ => false) s = s := by
          intro l
          induction l with
          | nil => intros; rfl
          | cons y l ih => intro k s; simp only [wr, Bool.false_eq_true, if_false]; exact ih _ _
        rw [z0, fin_sl, if_pos hd]
      · rw [if_neg hd]
        exact wr_sl r (k + 1) _ _ s3.2.2 (by rw [fin_sl, if_neg hd]) fun _ _ _ _ => rfl
    · rw [fin_blk]
      by_cases hb : ∃ p ∈ z.δ, p.1 = b
      · obtain ⟨p, hp, rfl⟩ := hb
        have e0 : ∀ s : St, (wr r (k + 1) m s).blk p.1 = s.blk p.1 := fun s => by
          have z0 : ∀ (l : List Out) (k : Nat) (s : St), wr l k (fun _ => false) s = s := by
            intro l
            induction l with
            | nil => intros; rfl
            | cons y l ih => intro k s; simp only [wr, Bool.false_eq_true, if_false]; exact ih _ _
          rw [wr_blk (m2 := fun _ => false) r (k + 1) s s rfl rfl rfl fun i y hy ⟨q, hq, e⟩ => by
            by_cases e' : m (k + 1 + i) = true
            · exact ((hs (i + 1) y (by omega) (by simpa using hy) (by rwa [show k + (i + 1) = k + 1 + i by omega])).2 p hp q hq e).elim
            · simpa using e', z0]
        rw [e0, fin_blk]
        exact (app_blk_same z.δ s _ s2.1 s2.2.1 (e0 s)).symm
      · rw [app_blk_ne _ _ fun p hp e => hb ⟨p, hp, e⟩]
        exact wr_blk r (k + 1) _ _ s3.1 s3.2.1 (by rw [fin_blk]; exact app_blk_ne _ _ fun p hp e => hb ⟨p, hp, e⟩) fun _ _ _ _ => rfl
  | z :: r, k, i + 1, s, y, h, hf, ht, hm, hs => by
    simp only [wr]
    rw [hm k (by omega)]
    exact wr_add r (k + 1) i _ y (by simpa using h) (by rwa [show k + 1 + i = k + (i + 1) by omega]) (by rwa [show k + 1 + i = k + (i + 1) by omega]) (fun j hj => hm j (by omega))
      fun j z' hj hz hm' => hs (j + 1) z' (by omega) (by simpa using hz) (by rwa [show k + (j + 1) = k + 1 + j by omega])

/-- what the run in the text's order tells of one operation -/
def Fact (P : Program) (dc : List (List Nat)) (k : Nat) (T : St) (y : Out) : Prop :=
  (∀ p ∈ y.δ, p.1 ∈ covOf T.n dc k y.x ∧ p.1 ∉ hidOf T.n dc y.x) ∧
  match y.x.o.guard with
  | .always => stepV P y.x.o (T.hide (hidOf T.n dc y.x)) fun d' δ' => d' = y.d ∧ δ' = y.δ
  | .on t want => ∃ b, nth T.sl t = .bool b ∧ (b = want → stepV P y.x.o (T.hide (hidOf T.n dc y.x)) fun d' δ' => d' = y.d ∧ δ' = y.δ) ∧ (b ≠ want → y.d = .top ∧ y.δ = [])
  | .bad => False

theorem adr_facts {dc : List (List Nat)} {K : St → Prop} : ∀ (l : List DOper) (k : Nat) (s : St), adr P dc l k s K →
    ∃ ys : List Out, ys.map (·.x) = l ∧ K (wr ys k (fun _ => true) s) ∧ ∀ (i : Nat) (y : Out), ys[i]? = some y → Fact P dc (k + i) (wr ys k (fun j => decide (j < k + i)) s) y
  | [], k, s, h => ⟨[], rfl, h, by simp⟩
  | x :: r, k, s, h => by
    have step : ∀ d δ, Fact P dc k s ⟨x, d, δ⟩ → adr P dc r (k + 1) (s.fin x.o.dst d δ) K → ∃ ys : List Out, ys.map (·.x) = x :: r ∧ K (wr ys k (fun _ => true) s) ∧ ∀ (i : Nat) (y : Out), ys[i]? = some y → Fact P dc (k + i) (wr ys k (fun j => decide (j < k + i)) s) y := by
      intro d δ hf hr
      obtain ⟨ys, h1, h2, h3⟩ := adr_facts r (k + 1) _ hr
      refine ⟨⟨x, d, δ⟩ :: ys, by simp [h1], by simpa [wr] using h2, fun i y hy => ?_⟩
      cases i with
      | zero =>
        simp only [List.getElem?_cons_zero, Option.some.injEq] at hy
        subst hy
        have z0 : wr (⟨x, d, δ⟩ :: ys) k (fun j => decide (j < k + 0)) s = s := by
          have : ∀ (l : List Out) (k' : Nat) (s : St), k ≤ k' → wr l k' (fun j => decide (j < k + 0)) s = s := by
            intro l
            induction l with
            | nil => intros; rfl
            | cons y l ih =>
              intro k' s hk
              simp only [wr]
              rw [if_neg (by simp; omega)]
              exact ih _ _ (by omega)
          exact this _ _ _ (Nat.le_refl _)
        rw [z0]; exact hf
      | succ i =>
        have := h3 i y (by simpa using hy)
        rw [show k + 1 + i = k + (i + 1) by omega] at this
        simp only [wr]
        rw [if_pos (by simp)]
        exact this
    simp only [adr] at h
    split at h
    · rename_i hg
      obtain ⟨d, δ, h1, h2, h3⟩ := h
      exact step d δ ⟨h2, by simp only [hg]; exact h1⟩ h3
    · rename_i t want hg
      split at h
      · rename_i b hb
        by_cases hw : b = want
        · obtain ⟨d, δ, h1, h2, h3⟩ := h.1 hw
          exact step d δ ⟨h2, by simp only [hg]; exact ⟨b, hb, fun _ => h1, fun hn => (hn hw).elim⟩⟩ h3
        · exact step .top [] ⟨by simp, by simp only [hg]; exact ⟨b, hb, fun hn => (hw hn).elim, fun _ => by simp⟩⟩ (h.2 hw)
      · exact h.elim
    · exact h.elim

end Abs
end Go.Proofs.Ytfojedaccfenfab
