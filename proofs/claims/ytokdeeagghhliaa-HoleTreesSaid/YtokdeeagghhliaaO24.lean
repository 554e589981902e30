/- The least words of the parts of a pattern are the least. Plain. -/
import Derived.Test.YtokdeeagghhliaaO23
namespace Go.Proofs.Ytokdeeagghhliaa
namespace Abs
set_option linter.unusedVariables false
set_option linter.unusedSimpArgs false
set_option maxRecDepth 20000

/-- a symbol in a cell -/
def baseC (rs : List Ru) (l : List Sy) (x : Sy) (i j : Nat) (w : List Int) : Prop := j = i + 1 ∧ i < l.length ∧ takes (l.getD i sy0) x = true ∧ freeD rs x w
def partD' (rs : List Ru) (l : List Sy) (x : Sy) (i j : Nat) (w : List Int) : Prop := derD (baseC rs l) rs x i j w

/-- what is known of the free words -/
structure LeastOk (rs : List Ru) (B N : Nat) (ws : List Wd) : Prop where
  att : ∀ x, symOk B N x → Att (freeD rs x) (freeW ws x)
  bel : ∀ x w, symOk B N x → freeD rs x w → Bel (freeW ws x) w

section
variable {rs : List Ru} {B N : Nat} {ws : List Wd} {l : List Sy}

def AttP (rs : List Ru) (N : Nat) (l : List Sy) (P : Tb) : Prop := ∀ a i j, a < N → i ≤ l.length → j ≤ l.length → Att (partD' rs l ⟨false, a⟩ i j) (partW P a i j)

theorem cell_att (hw : LeastOk rs B N ws) {x : Sy} (hx : symOk B N x) {i : Nat} (hi : i < l.length) : Att (partD' rs l x i (i + 1)) (cellW ws l x i) := by
  unfold cellW
  split
  · rename_i ht
    exact (hw.att x hx).mono fun w h => derD_base ⟨rfl, hi, ht, h⟩
  · exact .inl rfl
theorem sym_att (hw : LeastOk rs B N ws) {P : Tb} (hP : AttP rs N l P) {x : Sy} (hx : symOk B N x) {i j : Nat} (hi : i ≤ l.length) (hj : j ≤ l.length) : Att (partD' rs l x i j) (symW ws P l x i j) := by
  unfold symW
  have ho : Att (partD' rs l x i j) (if j = i + 1 then cellW ws l x i else wd0) := by
    split
    · rename_i e; subst e; exact cell_att hw hx (by omega)
    · exact .inl rfl
  simp only
  generalize (if j = i + 1 then cellW ws l x i else wd0) = o at *
  split
  · rename_i hc
    obtain ⟨xt, xn⟩ := x
    have h1 := hx.1
    have h2 := hx.2.2 hc.1
    simp only at h1 h2 hc ⊢
    obtain ⟨ht, _⟩ := hc
    subst ht
    have := hP xn.toNat i j (by omega) hi hj
    rwa [show ((xn.toNat : Nat) : Int) = xn by omega] at this
  · exact ho

/-- a row of entries -/
def RowAtt (S : Nat → List Int → Prop) (l : List Sy) (nx : List Wd) : Prop := nx.length = l.length + 1 ∧ ∀ j, j ≤ l.length → Att (S j) (nx.getD j wd0)
theorem row0_att (hw : LeastOk rs B N ws) {S : Nat → List Int → Prop} : RowAtt S l (row0 l) := by
  refine ⟨by simp [row0], fun j hj => .inl ?_⟩
  simp [row0, List.getD, List.getElem?_replicate]
  split <;> rfl

theorem cellJ_get (hw : LeastOk rs B N ws) {P : Tb} {x : Sy} {now nx : List Wd} {m j : Nat} (hn : j < nx.length) (j' : Nat) : (cellJ ws P l x now m nx j).getD j' wd0 =
    if j' = j then (if shorterW (now.getD m wd0) (symW ws P l x m j) (nx.getD j wd0) = true then joinW (now.getD m wd0) (symW ws P l x m j) else nx.getD j wd0) else nx.getD j' wd0 := by
  unfold cellJ
  split
  · rename_i hs
    rw [getD_set _ _ _ _ _ hn]
  · split
    · rename_i e; rw [e]
    · rfl
theorem cellJ_len (hw : LeastOk rs B N ws) {P : Tb} {x : Sy} {now nx : List Wd} {m j : Nat} : (cellJ ws P l x now m nx j).length = nx.length := by
  unfold cellJ; split <;> simp

section
variable {P : Tb} {x : Sy} {i : Nat} {pre : List Sy} {now : List Wd}
theorem cellJ_att (hw : LeastOk rs B N ws) (hP : AttP rs N l P) (hx : symOk B N x) (hn : RowAtt (fun j => seqD (partD' rs l) pre i j) l now) {m j : Nat} (hm : m ≤ l.length) (hj : j ≤ l.length) {nx : List Wd} (h : RowAtt (fun j => seqD (partD' rs l) (pre ++ [x]) i j) l nx) : RowAtt (fun j => seqD (partD' rs l) (pre ++ [x]) i j) l (cellJ ws P l x now m nx j) := by
  refine ⟨by rw [cellJ_len hw]; exact h.1, fun j' hj' => ?_⟩
  rw [cellJ_get hw (by have := h.1; omega)]
  split
  · rename_i e
    subst e
    split
    · rename_i hs
      exact better_att (hn.2 m hm) (sym_att hw hP hx hm hj') (fun u v hu hv => seqD_app hu hv) hs
    · exact h.2 j' hj'
  · exact h.2 j' hj'
/-- one more entry of the row -/
theorem cellJ_bel (hw : LeastOk rs B N ws) (hP : AttP rs N l P) (hx : symOk B N x) (hn : RowAtt (fun j => seqD (partD' rs l) pre i j) l now) {m j : Nat} (hm : m ≤ l.length) (hj : j ≤ l.length) {nx : List Wd} (h : RowAtt (fun j => seqD (partD' rs l) (pre ++ [x]) i j) l nx) :
    (∀ j' w, Bel (nx.getD j' wd0) w → Bel ((cellJ ws P l x now m nx j).getD j' wd0) w) ∧ ∀ u v, Bel (now.getD m wd0) u → Bel (symW ws P l x m j) v → Bel ((cellJ ws P l x now m nx j).getD j wd0) (u ++ v) := by
  refine ⟨fun j' w hb => ?_, fun u v hu hv => ?_⟩
  · rw [cellJ_get hw (by have := h.1; omega)]
    split
    · rename_i e
      subst e
      exact better_bel (hn.2 m hm) (sym_att hw hP hx hm hj) (h.2 j' hj) hb
    · exact hb
  · rw [cellJ_get hw (by have := h.1; omega), if_pos rfl]
    exact better_new (h.2 j hj) hu hv
theorem rowJ_att (hw : LeastOk rs B N ws) (hP : AttP rs N l P) (hx : symOk B N x) (hn : RowAtt (fun j => seqD (partD' rs l) pre i j) l now) {m : Nat} (hm : m ≤ l.length) {nx : List Wd} (h : RowAtt (fun j => seqD (partD' rs l) (pre ++ [x]) i j) l nx) : ∀ k, m + k ≤ l.length + 1 →
    RowAtt (fun j => seqD (partD' rs l) (pre ++ [x]) i j) l (rowJ ws P l x now m k nx) ∧ (∀ j' w, Bel (nx.getD j' wd0) w → Bel ((rowJ ws P l x now m k nx).getD j' wd0) w) ∧
    ∀ j u v, m ≤ j → j < m + k → Bel (now.getD m wd0) u → Bel (symW ws P l x m j) v → Bel ((rowJ ws P l x now m k nx).getD j wd0) (u ++ v)
  | 0, _ => ⟨h, fun _ _ h => h, fun j u v h1 h2 => by omega⟩
  | k + 1, hk => by
    obtain ⟨a1, a2, a3⟩ := rowJ_att hw hP hx hn hm h k (by omega)
    obtain ⟨b1, b2⟩ := cellJ_bel hw hP hx hn hm (by omega : m + k ≤ l.length) a1
    rw [rowJ_s]
    refine ⟨cellJ_att hw hP hx hn hm (by omega) a1, fun j' w hb => b1 j' w (a2 j' w hb), fun j u v h1 h2 hu hv => ?_⟩
    by_cases e : j = m + k
    · subst e; exact b2 u v hu hv
    · exact b1 j _ (a3 j u v h1 (by omega) hu hv)
theorem rowM_att (hw : LeastOk rs B N ws) (hP : AttP rs N l P) (hx : symOk B N x) (hn : RowAtt (fun j => seqD (partD' rs l) pre i j) l now) {nx : List Wd} (h : RowAtt (fun j => seqD (partD' rs l) (pre ++ [x]) i j) l nx) : ∀ k, i + k ≤ l.length + 1 →
    RowAtt (fun j => seqD (partD' rs l) (pre ++ [x]) i j) l (rowM ws P l x now i k nx) ∧ (∀ j' w, Bel (nx.getD j' wd0) w → Bel ((rowM ws P l x now i k nx).getD j' wd0) w) ∧
    ∀ m j u v, i ≤ m → m < i + k → m ≤ j → j ≤ l.length → Bel (now.getD m wd0) u → Bel (symW ws P l x m j) v → Bel ((rowM ws P l x now i k nx).getD j wd0) (u ++ v)
  | 0, _ => ⟨h, fun _ _ h => h, fun m j u v h1 h2 => by omega⟩
  | k + 1, hk => by
    obtain ⟨a1, a2, a3⟩ := rowM_att hw hP hx hn h k (by omega)
    rw [rowM_s]
    unfold cellM
    split
    · rename_i ho
      obtain ⟨b1, b2, b3⟩ := rowJ_att hw hP hx hn (by omega : i + k ≤ l.length) a1 (l.length + 1 - (i + k)) (by omega)
      refine ⟨b1, fun j' w hb => b2 j' w (a2 j' w hb), fun m j u v h1 h2 h3 h4 hu hv => ?_⟩
      by_cases e : m = i + k
      · subst e; exact b3 j u v h3 (by omega) hu hv
      · exact b2 j _ (a3 m j u v h1 (by omega) h3 h4 hu hv)
    · rename_i ho
      refine ⟨a1, a2, fun m j u v h1 h2 h3 h4 hu hv => ?_⟩
      by_cases e : m = i + k
      · subst e; exact absurd hu.ok ho
      · exact a3 m j u v h1 (by omega) h3 h4 hu hv
end

theorem rowX_att (hw : LeastOk rs B N ws) {P : Tb} (hP : AttP rs N l P) {i : Nat} (hi : i ≤ l.length) {xs : List Sy} (hx : ∀ x ∈ xs, symOk B N x) : ∀ k, k ≤ xs.length → RowAtt (fun j => seqD (partD' rs l) (xs.take k) i j) l (rowX ws P l i (xs.take k))
  | 0, _ => by
    refine ⟨by simp [rowX, row0], fun j hj => ?_⟩
    have e : (rowX ws P l i (xs.take 0)).getD j wd0 = if j = i then wd1 else (row0 l).getD j wd0 := by
      show ((row0 l).set i wd1).getD j wd0 = _
      rw [getD_set _ _ _ _ _ (by simp [row0]; omega)]
    rw [e]
    split
    · rename_i e; subst e; exact .inr ⟨[], ⟨rfl, rfl⟩, rfl⟩
    · exact (row0_att hw (S := fun j => seqD (partD' rs l) (xs.take 0) i j)).2 j hj
  | k + 1, hk => by
    have ih := rowX_att hw hP hi hx k (by omega)
    have hk' : k < xs.length := by omega
    have e := rowX_take ws P l i hk'
    have em : xs.getD k ⟨false, 0⟩ = xs[k] := by simp [List.getD, hk']
    rw [e, em]
    have et : xs.take (k + 1) = xs.take k ++ [xs[k]] := (List.take_append_getElem hk').symm
    rw [et]
    exact (rowM_att hw hP (hx _ (List.getElem_mem hk')) ih (row0_att hw) _ (by omega)).1
/-- every sequence of words has an entry of the row that is at most it -/
theorem rowX_bel (hw : LeastOk rs B N ws) {P : Tb} (hP : AttP rs N l P) {S : Sy → Nat → Nat → List Int → Prop} {i : Nat} (hi : i ≤ l.length) {xs : List Sy} (hx : ∀ x ∈ xs, symOk B N x)
    (hS : ∀ x ∈ xs, ∀ m j v, m ≤ l.length → S x m j v → m ≤ j ∧ j ≤ l.length ∧ Bel (symW ws P l x m j) v) : ∀ k, k ≤ xs.length → ∀ j w, seqD S (xs.take k) i j w → i ≤ j ∧ j ≤ l.length ∧ Bel ((rowX ws P l i (xs.take k)).getD j wd0) w
  | 0, _, j, w, h => by
    obtain ⟨h1, h2⟩ := h
    subst h1; subst h2
    refine ⟨Nat.le_refl _, hi, ?_⟩
    have e : (rowX ws P l i (xs.take 0)).getD i wd0 = wd1 := by
      show ((row0 l).set i wd1).getD i wd0 = _
      rw [getD_set _ _ _ _ _ (by simp [row0]; omega), if_pos rfl]
    rw [e]
    exact ⟨[], rfl, leS_refl _⟩
  | k + 1, hk, j, w, h => by
    have hk' : k < xs.length := by omega
    have e := rowX_take ws P l i hk'
    have em : xs.getD k ⟨false, 0⟩ = xs[k] := by simp [List.getD, hk']
    rw [e, em]
    have et : xs.take (k + 1) = xs.take k ++ [xs[k]] := (List.take_append_getElem hk').symm
    rw [et] at h
    obtain ⟨m, u, v, rfl, h1, h2⟩ := seqD_split h
    obtain ⟨b1, b2, b3⟩ := rowX_bel hw hP hi hx hS k (by omega) m u h1
    obtain ⟨c1, c2, c3⟩ := hS xs[k] (List.getElem_mem hk') m j v b2 h2
    exact ⟨by omega, c2, (rowM_att hw hP (hx _ (List.getElem_mem hk')) (rowX_att hw hP hi hx k (by omega)) (row0_att hw) _ (by omega)).2.2 m j u v b1 (by omega) c1 c2 b3 c3⟩

/-! ### the passes -/
theorem stepJ_att (hw : LeastOk rs B N ws) (hp : PatW B N ws l) (hg : ∀ r ∈ rs, (∀ x ∈ r.right, symOk B N x) ∧ 0 ≤ r.left ∧ r.left < N) {r : Ru} (hr : r ∈ rs) {row : List Wd} {i : Nat} (hi : i ≤ l.length) (hrow : RowAtt (fun j => seqD (partD' rs l) r.right i j) l row) {s : Tb × Bool} (hG : GoodP B ws l N s.1) (h : AttP rs N l s.1) {j : Nat} (hj : j ≤ l.length) :
    AttP rs N l (stepJ row r.left.toNat i s j).1 := by
  unfold stepJ
  split
  · intro a' i' j' ha' hi' hj'
    have hl := (hg r hr).2
    simp only
    rw [part_set3 (hG.inW (by omega) hi hj)]
    split
    · rename_i e
      obtain ⟨rfl, rfl, rfl⟩ := e
      refine (hrow.2 j' hj').mono fun w hw' => ?_
      rw [show ((r.left.toNat : Nat) : Int) = r.left by omega]
      exact derD_rule hr hw'
    · exact h a' i' j' ha' hi' hj'
  · exact h
variable {P0 : Tb}
theorem foldJ_att (hw : LeastOk rs B N ws) (hp : PatW B N ws l) (hg : ∀ r ∈ rs, (∀ x ∈ r.right, symOk B N x) ∧ 0 ≤ r.left ∧ r.left < N) (hB : 1 ≤ B) {r : Ru} (hr : r ∈ rs) {row : List Wd} {i : Nat} (hi : i ≤ l.length) (hrow : RowAtt (fun j => seqD (partD' rs l) r.right i j) l row) (hrg : RowW B ws l i row) {s : Tb × Bool} (hm : MidP B ws l N P0 s) (h : AttP rs N l s.1) :
    ∀ k, k ≤ l.length + 1 → AttP rs N l ((List.range k).foldl (stepJ row r.left.toNat i) s).1
  | 0, _ => h
  | k + 1, hk => by
    have hl := (hg r hr).2
    rw [List.range_succ, List.foldl_append]
    exact stepJ_att hw hp hg hr hi hrow (foldJ_mid hB (by omega) hi hrg hm k (by omega)).good (foldJ_att hw hp hg hB hr hi hrow hrg hm h k (by omega)) (by omega)
theorem stepI_att (hw : LeastOk rs B N ws) (hp : PatW B N ws l) (hg : ∀ r ∈ rs, (∀ x ∈ r.right, symOk B N x) ∧ 0 ≤ r.left ∧ r.left < N) (hB : 1 ≤ B) {r : Ru} (hr : r ∈ rs) {i : Nat} (hi : i ≤ l.length) {s : Tb × Bool} (hm : MidP B ws l N P0 s) (h : AttP rs N l s.1) : AttP rs N l (stepI ws l r s i).1 := by
  have h1 := rowX_att hw h hi (hg r hr).1 r.right.length (Nat.le_refl _)
  have h2 := rowX_good hp hm.good hi (hg r hr).1 r.right.length (Nat.le_refl _)
  rw [List.take_length] at h1 h2
  exact foldJ_att hw hp hg hB hr hi h1 h2 hm h _ (Nat.le_refl _)
theorem foldI_att (hw : LeastOk rs B N ws) (hp : PatW B N ws l) (hg : ∀ r ∈ rs, (∀ x ∈ r.right, symOk B N x) ∧ 0 ≤ r.left ∧ r.left < N) (hB : 1 ≤ B) {r : Ru} (hr : r ∈ rs) {s : Tb × Bool} (hm : MidP B ws l N P0 s) (h : AttP rs N l s.1) : ∀ k, k ≤ l.length + 1 → AttP rs N l ((List.range k).foldl (stepI ws l r) s).1
  | 0, _ => h
  | k + 1, hk => by
    rw [List.range_succ, List.foldl_append]
    exact stepI_att hw hp hg hB hr (by omega) (foldI_mid hB hp (hg r hr).2 (hg r hr).1 hm k (by omega)) (foldI_att hw hp hg hB hr hm h k (by omega))
theorem foldR_att (hw : LeastOk rs B N ws) (hp : PatW B N ws l) (hg : ∀ r ∈ rs, (∀ x ∈ r.right, symOk B N x) ∧ 0 ≤ r.left ∧ r.left < N) (hB : 1 ≤ B) : ∀ {rs' : List Ru} {s : Tb × Bool}, (∀ r ∈ rs', r ∈ rs) → MidP B ws l N P0 s → AttP rs N l s.1 → AttP rs N l (rs'.foldl (stepR ws l) s).1
  | [], s, _, _, h => h
  | r :: rs', s, hr, hm, h => by
    have hr0 := hr r (by simp)
    exact foldR_att hw hp hg hB (s := stepR ws l s r) (fun r' h' => hr r' (by simp [h'])) (foldI_mid hB hp (hg r hr0).2 (hg r hr0).1 hm _ (Nat.le_refl _)) (foldI_att hw hp hg hB hr0 hm h _ (Nat.le_refl _))
theorem runP_att (hw : LeastOk rs B N ws) (hp : PatW B N ws l) (hg : ∀ r ∈ rs, (∀ x ∈ r.right, symOk B N x) ∧ 0 ≤ r.left ∧ r.left < N) (hB : 1 ≤ B) : ∀ (k : Nat) (P : Tb), GoodP B ws l N P → AttP rs N l P → AttP rs N l (runP ws l rs k P)
  | 0, P, _, h => h
  | k + 1, P, hG, h => by
    have hm : MidP B ws l N P (P, false) := ⟨hG, fun h => (by cases h), fun _ => rfl⟩
    have h1 : AttP rs N l (passP ws l rs P).1 := foldR_att hw hp hg hB (fun r h => h) hm h
    have h2 := foldR_mid hB hp (fun r hr => ⟨(hg r hr).2, (hg r hr).1⟩) hm rs.length (Nat.le_refl _)
    rw [List.take_length] at h2
    rw [runP]
    split
    · exact runP_att hw hp hg hB k _ h2.good h1
    · exact h1

theorem runP_end (hp : PatW B N ws l) (hg : ∀ r ∈ rs, (∀ x ∈ r.right, symOk B N x) ∧ 0 ≤ r.left ∧ r.left < N) (hB : 1 ≤ B) : ∀ (k : Nat) (P : Tb), GoodP B ws l N P → sum3 B P < k → (passP ws l rs (runP ws l rs k P)).2 = false
  | 0, P, _, h => by omega
  | k + 1, P, hG, h => by
    have hm : MidP B ws l N P (P, false) := ⟨hG, fun h => (by cases h), fun _ => rfl⟩
    have h2 := foldR_mid hB hp (fun r hr => ⟨(hg r hr).2, (hg r hr).1⟩) hm rs.length (Nat.le_refl _)
    rw [List.take_length] at h2
    have h2 : MidP B ws l N P (passP ws l rs P) := h2
    rw [runP]
    split
    · rename_i hc
      exact runP_end hp hg hB k _ h2.good (by have := h2.less hc; omega)
    · rename_i hc
      have hc : (passP ws l rs P).2 = false := by simpa using hc
      rw [h2.same hc]; exact hc
end

theorem fold_same {σ α : Type} {f : σ × Bool → α → σ × Bool} (hf : ∀ s x, (f s x).2 = false → f s x = s) : ∀ {l : List α} {s : σ × Bool}, (l.foldl f s).2 = false → l.foldl f s = s ∧ ∀ x ∈ l, f s x = s
  | [], s, _ => ⟨rfl, fun x hx => by cases hx⟩
  | x :: l, s, h => by
    obtain ⟨h1, h2⟩ := fold_same hf (l := l) (s := f s x) h
    have h3 : (f s x).2 = false := by rw [← h1]; exact h
    have h4 := hf s x h3
    rw [h4] at h2
    exact ⟨by rw [List.foldl_cons, h1, h4], fun y hy => by
      rcases List.mem_cons.1 hy with rfl | hy
      · exact h4
      · exact h2 y hy⟩
theorem stepJ_same {row : List Wd} {a i : Nat} (s : Tb × Bool) (j : Nat) (h : (stepJ row a i s j).2 = false) : stepJ row a i s j = s := by
  unfold stepJ at h ⊢
  split at h
  · cases h
  · rename_i hc; rw [if_neg hc]
theorem stepI_same {ws : List Wd} {l : List Sy} {r : Ru} (s : Tb × Bool) (i : Nat) (h : (stepI ws l r s i).2 = false) : stepI ws l r s i = s := (fold_same stepJ_same h).1
theorem stepR_same {ws : List Wd} {l : List Sy} (s : Tb × Bool) (r : Ru) (h : (stepR ws l s r).2 = false) : stepR ws l s r = s := (fold_same stepI_same h).1
/-- a pass that changes nothing -/
theorem pass_same {ws : List Wd} {l : List Sy} {rs : List Ru} {P : Tb} (h : (passP ws l rs P).2 = false) : ∀ r ∈ rs, ∀ i, i ≤ l.length → ∀ j, j ≤ l.length → chkP (rowX ws P l i r.right) P r.left.toNat i j = false := by
  intro r hr i hi j hj
  have h1 := (fold_same stepR_same h).2 r hr
  have h1' : (stepR ws l (P, false) r).2 = false := by rw [h1]
  have h2 := (fold_same stepI_same h1').2 i (List.mem_range.2 (by omega))
  have h2' : (stepI ws l r (P, false) i).2 = false := by rw [h2]
  have h3 := (fold_same stepJ_same h2').2 j (List.mem_range.2 (by omega))
  unfold stepJ at h3
  split at h3
  · injection h3 with _ h3; cases h3
  · rename_i hc; simpa using hc

section
variable {rs : List Ru} {B N : Nat} {ws : List Wd} {l : List Sy} {F : Tb}
theorem sym_bel (hw : LeastOk rs B N ws) (hg : ∀ r ∈ rs, (∀ x ∈ r.right, symOk B N x) ∧ 0 ≤ r.left ∧ r.left < N) (hA : AttP rs N l F) (hF : (passP ws l rs F).2 = false) {x : Sy} (hx : symOk B N x) {i j : Nat} (hi : i ≤ l.length) (hj : j ≤ l.length) {w : List Int} (h : Bel (if j = i + 1 then cellW ws l x i else wd0) w ∨ (x.t = false ∧ Bel (partW F x.n.toNat i j) w)) : Bel (symW ws F l x i j) w := by
  have ho : Att (partD' rs l x i j) (if j = i + 1 then cellW ws l x i else wd0) := by
    split
    · rename_i e; subst e; exact cell_att hw hx (by omega)
    · exact .inl rfl
  unfold symW
  simp only
  generalize (if j = i + 1 then cellW ws l x i else wd0) = o at *
  by_cases ht : x.t = false
  · have h1 := hx.1
    have h2 := hx.2.2 ht
    have hp := hA x.n.toNat i j (by omega) hi hj
    have := better1_bel hp ho (w := w) (h.imp id And.right)
    simpa [ht] using this
  · rw [if_neg (fun h => ht h.1)]
    rcases h with h | h
    · exact h
    · exact absurd h.1 ht
theorem part_bel (hw : LeastOk rs B N ws) (hg : ∀ r ∈ rs, (∀ x ∈ r.right, symOk B N x) ∧ 0 ≤ r.left ∧ r.left < N) (hA : AttP rs N l F) (hF : (passP ws l rs F).2 = false) : ∀ (k : Nat) {x : Sy} {i j : Nat} {w : List Int}, symOk B N x → i ≤ l.length → genD (baseC rs l) rs k x i j w → i ≤ j ∧ j ≤ l.length ∧ Bel (symW ws F l x i j) w := by
  have base : ∀ {x : Sy} {i j : Nat} {w : List Int}, symOk B N x → baseC rs l x i j w → i ≤ j ∧ j ≤ l.length ∧ Bel (symW ws F l x i j) w := fun {x i j w} hx ⟨h1, h2, h3, h4⟩ => by
    subst h1
    refine ⟨by omega, by omega, sym_bel hw hg hA hF hx (by omega) (by omega) (.inl ?_)⟩
    rw [if_pos rfl]
    unfold cellW
    rw [if_pos h3]
    exact hw.bel x w hx h4
  intro k
  induction k with
  | zero => intro x i j w hx _ h; exact base hx h
  | succ k ih =>
    intro x i j w hx hi h
    rcases h with h | ⟨r, hr, hxr, hs⟩
    · exact base hx h
    · subst hxr
      obtain ⟨g1, g2, g3⟩ := hg r hr
      have := rowX_bel hw hA (S := genD (baseC rs l) rs k) hi g1 (fun x hx' m j v hm h => ih (g1 x hx') hm h) r.right.length (Nat.le_refl _) j w (by rw [List.take_length]; exact hs)
      rw [List.take_length] at this
      obtain ⟨b1, b2, b3⟩ := this
      refine ⟨b1, b2, sym_bel hw hg hA hF hx hi b2 (.inr ⟨rfl, ?_⟩)⟩
      have hc := pass_same hF r hr i hi j b2
      have hra := rowX_att hw hA hi g1 r.right.length (Nat.le_refl _)
      rw [List.take_length] at hra
      have := better1_bel (hra.2 j b2) (hA r.left.toNat i j (by omega) hi b2) (.inr b3)
      unfold chkP at hc
      rwa [hc, if_neg (by simp)] at this
end

theorem least_ok {g : Gr} (h : okG g) : LeastOk g.rules 8 g.nons.toNat (leastW g) := ⟨fun x hx => least_att h hx, fun x w hx hw => least_bel h hx hw⟩
/-- the whole pattern's word is derived, and the least -/
theorem whole_att {g : Gr} {l : List Sy} (h : okG g) (hl : okP g l) : Att (partD' g.rules l ⟨false, g.start⟩ 0 l.length) (wholeW g l) := by
  refine sym_att (least_ok h) ?_ h.startS (by omega) (by omega)
  refine runP_att (least_ok h) (hl.pat h) (fun r hr => (h.rule r hr).2) (by omega) _ _ (part0_good rfl) fun a i j _ _ _ => ?_
  rw [part0_at]; exact .inl rfl
theorem whole_bel {g : Gr} {l : List Sy} (h : okG g) (hl : okP g l) {w : List Int} (hw : partD' g.rules l ⟨false, g.start⟩ 0 l.length w) : Bel (wholeW g l) w := by
  obtain ⟨k, hk⟩ := hw
  refine (part_bel (least_ok h) (fun r hr => (h.rule r hr).2) ?_ ?_ k h.startS (by omega) hk).2.2
  · refine runP_att (least_ok h) (hl.pat h) (fun r hr => (h.rule r hr).2) (by omega) _ _ (part0_good rfl) fun a i j _ _ _ => ?_
    rw [part0_at]; exact .inl rfl
  · exact runP_end (hl.pat h) (fun r hr => (h.rule r hr).2) (by omega) _ _ (part0_good rfl) (Nat.lt_succ_self _)
theorem whole_ok {g : Gr} {l : List Sy} (h : okG g) (hl : okP g l) : (wholeW g l).ok = true ↔ ∃ w, partD' g.rules l ⟨false, g.start⟩ 0 l.length w :=
  ⟨fun ho => let ⟨w, hw, _⟩ := (whole_att h hl).ok ho; ⟨w, hw⟩, fun ⟨w, hw⟩ => (whole_bel h hl hw).ok⟩

end Abs
end Go.Proofs.Ytokdeeagghhliaa
