/- Weakening by a map of blocks; the table of the parts in three layers of blocks, on its way. -/
import Derived.Test.YtokdeeagghhliaaO13
namespace Go.Proofs.Ytokdeeagghhliaa
namespace Abs
set_option linter.unusedVariables false
set_option linter.unusedSimpArgs false
set_option maxRecDepth 20000

theorem bgetD_set_ne {L : List Blk} {a b : Nat} {x : Blk} (h : ¬ a = b) : (L.set a x).getD b blk0 = L.getD b blk0 := by
  simp [List.getD, List.getElem?_set_ne h]
theorem bgetD_set_eq {L : List Blk} {a : Nat} {x : Blk} (h : a < L.length) : (L.set a x).getD a blk0 = x := by
  simp [List.getD, h]

/-- what a slot or a cell tells, where the block t was the block σ t -/
inductive CW (n K : Nat) (σ : Nat → Option Nat) : D → D → Prop
  | top (d : D) : CW n K σ d .top
  | low (d : D) (h : Low n d) : CW n K σ d d
  | nilsL : CW n K σ .nils (.lst [])
  | ref (sz u t len : Nat) (ht : t < K) (hs : σ t = some u) : CW n K σ (.ref sz (n + u) 1 0 len) (.ref sz (n + t) 1 0 len)
  | ptr (u t : Nat) (ht : t < K) (hs : σ t = some u) : CW n K σ (.ptr (n + u) 1 0) (.ptr (n + t) 1 0)
def CWL (n K : Nat) (σ : Nat → Option Nat) : List D → List D → Prop
  | [], [] => True
  | d :: l, d' :: l' => CW n K σ d d' ∧ CWL n K σ l l'
  | _, _ => False
theorem CWL.len {n K : Nat} {σ : Nat → Option Nat} : ∀ {l l' : List D}, CWL n K σ l l' → l'.length = l.length
  | [], [], _ => rfl
  | d :: l, d' :: l', h => by simp only [List.length_cons, CWL.len h.2]
  | [], _ :: _, h => h.elim
  | _ :: _, [], h => h.elim
theorem CWL.get {n K : Nat} {σ : Nat → Option Nat} : ∀ {l l' : List D}, CWL n K σ l l' → ∀ (t : Nat) (d d' : D), l[t]? = some d → l'[t]? = some d' → CW n K σ d d'
  | [], [], _, t, d, d', h, _ => by simp at h
  | a :: l, a' :: l', h, 0, d, d', h1, h2 => by
    simp at h1 h2; subst h1; subst h2; exact h.1
  | a :: l, a' :: l', h, t + 1, d, d', h1, h2 => CWL.get h.2 t d d' (by simpa using h1) (by simpa using h2)
theorem cwl_top (n K : Nat) (σ : Nat → Option Nat) (d : D) (l l' : List D) : CWL n K σ (d :: l) (.top :: l') = CWL n K σ l l' := by
  simp only [CWL, eq_iff_iff]; exact ⟨fun h => h.2, fun h => ⟨.top _, h⟩⟩
theorem cwl_low {n K : Nat} {σ : Nat → Option Nat} {d : D} {l l' : List D} (hd : Low n d) (h : CWL n K σ l l') : CWL n K σ (d :: l) (d :: l') := ⟨.low _ hd, h⟩
theorem cwl_ref {n K : Nat} {σ : Nat → Option Nat} {sz u t len : Nat} {l l' : List D} (ht : t < K) (hs : σ t = some u) (h : CWL n K σ l l') : CWL n K σ (.ref sz (n + u) 1 0 len :: l) (.ref sz (n + t) 1 0 len :: l') := ⟨.ref _ _ _ _ ht hs, h⟩
theorem cwl_ptr {n K : Nat} {σ : Nat → Option Nat} {u t : Nat} {l l' : List D} (ht : t < K) (hs : σ t = some u) (h : CWL n K σ l l') : CWL n K σ (.ptr (n + u) 1 0 :: l) (.ptr (n + t) 1 0 :: l') := ⟨.ptr _ _ ht hs, h⟩

theorem cwl_lowS {n K : Nat} {σ : Nat → Option Nat} {d : D} {l l' : List D} (hd : Low n d) : CWL n K σ (d :: l) (d :: l') = CWL n K σ l l' := by
  simp only [CWL, eq_iff_iff]; exact ⟨fun h => h.2, fun h => ⟨.low _ hd, h⟩⟩
theorem cwl_int {n K : Nat} {σ : Nat → Option Nat} {k : IntKind} {i : Int} {l l' : List D} : CWL n K σ (.int k i :: l) (.int k i :: l') = CWL n K σ l l' := cwl_lowS (.int ..)
theorem cwl_bool {n K : Nat} {σ : Nat → Option Nat} {b : Bool} {l l' : List D} : CWL n K σ (.bool b :: l) (.bool b :: l') = CWL n K σ l l' := cwl_lowS (.bool ..)
theorem cwl_refS {n K : Nat} {σ : Nat → Option Nat} {sz u t len : Nat} {l l' : List D} (ht : t < K) (hs : σ t = some u) : CWL n K σ (.ref sz (n + u) 1 0 len :: l) (.ref sz (n + t) 1 0 len :: l') = CWL n K σ l l' := by
  simp only [CWL, eq_iff_iff]; exact ⟨fun h => h.2, fun h => ⟨.ref _ _ _ _ ht hs, h⟩⟩
theorem cwl_ptrS {n K : Nat} {σ : Nat → Option Nat} {u t : Nat} {l l' : List D} (ht : t < K) (hs : σ t = some u) : CWL n K σ (.ptr (n + u) 1 0 :: l) (.ptr (n + t) 1 0 :: l') = CWL n K σ l l' := by
  simp only [CWL, eq_iff_iff]; exact ⟨fun h => h.2, fun h => ⟨.ptr _ _ ht hs, h⟩⟩
theorem cwl_nil {n K : Nat} {σ : Nat → Option Nat} : CWL n K σ [] [] = True := rfl

def srcG (K : Nat) (σ : Nat → Option Nat) : List Src1 := (List.range K).map fun t => match σ t with
  | some u => .old u
  | none => .hole
theorem srcG_some {K : Nat} {σ : Nat → Option Nat} {t u : Nat} (ht : t < K) (h : σ t = some u) : (srcG K σ)[t]? = some (.old u) := by simp [srcG, ht, h]
theorem srcG_none {K : Nat} {σ : Nat → Option Nat} {t : Nat} (ht : t < K) (h : σ t = none) : (srcG K σ)[t]? = some .hole := by simp [srcG, ht, h]

structure BMap (n K : Nat) (σ : Nat → Option Nat) (L : List Blk) (f' : Nat → Blk) : Prop where
  len : L.length = K
  no : ∀ t, t < K → σ t = none → f' t = blk0
  yes : ∀ t u, t < K → σ t = some u → u < K ∧ ∃ cs cs', L.getD u blk0 = ⟨1, .cells cs⟩ ∧ f' t = ⟨1, .cells cs'⟩ ∧ cs'.length ≤ cs.length ∧ ∀ j, j < cs'.length → CW n K σ (nth cs j) (nth cs' j)
  inj : ∀ t t' u, t < K → t' < K → σ t = some u → σ t' = some u → t = t'

section
variable {n K : Nat} {σ : Nat → Option Nat} {L : List Blk} {f' : Nat → Blk}
theorem CW.wk (hm : BMap n K σ L f') {d d' : D} (h : CW n K σ d d') : Wk ⟨n, L, srcG K σ, (List.range K).map f'⟩ d d' := by
  have key : ∀ t u, t < K → σ t = .some u → (L.getD u blk0).ver = 1 ∧ (((List.range K).map f').getD t blk0).ver = 1 := fun t u ht hs => by
    obtain ⟨_, cs, cs', h1, h2, _⟩ := hm.yes t u ht hs
    refine ⟨by rw [h1], ?_⟩
    rw [show ((List.range K).map f').getD t blk0 = f' t by simp [List.getD, ht], h2]
  cases h with
  | top d => exact .top d
  | low d h => exact .low d h
  | nilsL => exact .nilsLst
  | ref sz u t len ht hs => exact .ref sz u t 1 1 0 len (srcG_some ht hs) (key t u ht hs).1 (key t u ht hs).2
  | ptr u t ht hs => exact .ptr u t 1 1 0 (srcG_some ht hs) (key t u ht hs).1 (key t u ht hs).2
theorem CWL.wkl (hm : BMap n K σ L f') : ∀ {l l' : List D}, CWL n K σ l l' → WkL ⟨n, L, srcG K σ, (List.range K).map f'⟩ l l'
  | [], [], _ => trivial
  | d :: l, d' :: l', h => y_wkl (h.1.wk hm) (CWL.wkl hm h.2)
  | [], _ :: _, h => h.elim
  | _ :: _, [], h => h.elim
theorem BMap.ok (hm : BMap n K σ L f') : WxOk ⟨n, L, srcG K σ, (List.range K).map f'⟩ := by
  refine ⟨by simp [srcG], fun t x k hx hk => ?_, fun t t' u hx hx' => ?_⟩
  · have ht : t < K := by have := (List.getElem?_eq_some_iff.1 hk).1; simpa using this
    have hk' : k = f' t := by simpa [ht] using hk.symm
    subst hk'
    simp only at hx
    cases hs : σ t with
    | none =>
      rw [srcG_none ht hs] at hx
      injection hx with hx; subst hx
      rw [hm.no t ht hs]
      exact trivial
    | some u =>
      rw [srcG_some ht hs] at hx
      injection hx with hx; subst hx
      obtain ⟨_, cs, cs', h1, h2, h3, h4⟩ := hm.yes t u ht hs
      rw [h2]
      refine ⟨Nat.le_refl _, cs, congrArg Blk.con h1, h3, fun j d' hd' => ?_⟩
      have hj := (List.getElem?_eq_some_iff.1 hd').1
      have := h4 j hj
      rw [nth_of hd'] at this
      exact this.wk hm
  · simp only at hx hx'
    have get : ∀ t, (srcG K σ)[t]? = .some (.old u) → t < K ∧ σ t = .some u := fun t h => by
      have ht : t < K := by have := (List.getElem?_eq_some_iff.1 h).1; simpa [srcG] using this
      refine ⟨ht, ?_⟩
      cases hs : σ t with
      | none => rw [srcG_none ht hs] at h; cases h
      | some u' => rw [srcG_some ht hs] at h; injection h with h; injection h with h; rw [h]
    exact hm.inj t t' u (get t hx).1 (get t' hx').1 (get t hx).2 (get t' hx').2
end

theorem le_map {n K : Nat} {sl sl' cs cs' : List D} {h0 : Heap} {b ver : Nat} {L : List Blk} {f' : Nat → Blk} (σ : Nat → Option Nat) (hl : LowH n h0) (hm : BMap n K σ L f') (hc : CWL n K σ cs cs') (hs : CWL n K σ sl sl') :
    Le (St.mk n sl (upd h0 b ⟨ver, .cells cs⟩) L) (St.mk n sl' (upd h0 b ⟨ver, .cells cs'⟩) ((List.range K).map f')) :=
  le_wkH (srcG K σ) (lowW_upd hl (hc.wkl hm)) hm.ok hs.len fun t d d' hd hd' => (hs.get t d d' hd hd').wk hm

/-! ### the table: its slice in block 23, the slices of the nonterminals in T .., the rows in T + N .. -/
def refsG (T n M N ga : Nat) : List D := (List.range N).map fun r => if r < ga then .ref 1 (n + (T + r)) 1 0 M else .nils
def refsR (T n M N rb r : Nat) : List D := (List.range M).map fun i => if r * M + i < rb then .ref 3 (n + (T + N + (r * M + i))) 1 0 M else .nils
def optB : Option (List D) → Blk
  | none => blk0
  | some cs => ⟨1, .cells cs⟩
def tabB (T N M n ga rb : Nat) (q : Option (List D)) (C : Nat → List D) (t : Nat) : Blk :=
  if t = 7 then optB q else if t = 23 then ⟨1, .cells (refsG T n M N ga)⟩
  else if T ≤ t ∧ t < T + ga then ⟨1, .cells (refsR T n M N rb (t - T))⟩
  else if T + N ≤ t ∧ t < T + N + rb then ⟨1, .cells (C (t - (T + N)))⟩ else blk0
def tabL (T N M n ga rb : Nat) (q : Option (List D)) (C : Nat → List D) : List Blk := (List.range (T + N + N * M)).map (tabB T N M n ga rb q C)

theorem refsG_len (T n M N ga : Nat) : (refsG T n M N ga).length = N := by simp [refsG]
theorem refsR_len (T n M N rb r : Nat) : (refsR T n M N rb r).length = M := by simp [refsR]
theorem nth_refsG {T n M N ga r : Nat} (hr : r < N) : nth (refsG T n M N ga) r = if r < ga then .ref 1 (n + (T + r)) 1 0 M else .nils := by
  simp [refsG, nth, List.getD, hr]
theorem nth_refsR {T n M N rb r i : Nat} (hi : i < M) : nth (refsR T n M N rb r) i = if r * M + i < rb then .ref 3 (n + (T + N + (r * M + i))) 1 0 M else .nils := by
  simp [refsR, nth, List.getD, hi]

section
variable {T N M n ga rb : Nat} {q : Option (List D)} {C : Nat → List D}
theorem tabL_len : (tabL T N M n ga rb q C).length = T + N + N * M := by simp [tabL]
theorem tabL_get {t : Nat} (ht : t < T + N + N * M) : (tabL T N M n ga rb q C).getD t blk0 = tabB T N M n ga rb q C t := by simp [tabL, List.getD, ht]
theorem tab_7 (hT : 23 < T) : (tabL T N M n ga rb q C).getD 7 blk0 = optB q := by rw [tabL_get (by omega), tabB, if_pos rfl]
theorem tab_23 (hT : 23 < T) : (tabL T N M n ga rb q C).getD 23 blk0 = ⟨1, .cells (refsG T n M N ga)⟩ := by rw [tabL_get (by omega), tabB, if_neg (by omega), if_pos rfl]
theorem tab_no {t : Nat} (h7 : t ≠ 7) (h23 : t ≠ 23) (ht : t < T) : (tabL T N M n ga rb q C).getD t blk0 = blk0 := by
  rw [tabL_get (by omega), tabB, if_neg h7, if_neg h23, if_neg (by omega), if_neg (by omega)]
theorem tab_g (hT : 23 < T) {r : Nat} (hr : r < ga) (hg : ga ≤ N) : (tabL T N M n ga rb q C).getD (T + r) blk0 = ⟨1, .cells (refsR T n M N rb r)⟩ := by
  rw [tabL_get (by omega), tabB, if_neg (by omega), if_neg (by omega), if_pos (by omega), show T + r - T = r by omega]
theorem tab_r (hT : 23 < T) {r : Nat} (hr : r < rb) (hg : ga ≤ N) (hb : rb ≤ N * M) : (tabL T N M n ga rb q C).getD (T + N + r) blk0 = ⟨1, .cells (C r)⟩ := by
  rw [tabL_get (by omega), tabB, if_neg (by omega), if_neg (by omega), if_neg (by omega), if_pos (by omega), show T + N + r - (T + N) = r by omega]
end

/-- which blocks hold the table -/
def usedT (T N ga rb : Nat) (q : Bool) (t : Nat) : Bool := (t == 7 && q) || t == 23 || (decide (T ≤ t) && decide (t < T + ga)) || (decide (T + N ≤ t) && decide (t < T + N + rb))
def sgT (T N ga rb : Nat) (q : Bool) (v u : Nat) (t : Nat) : Option Nat := if usedT T N ga rb q t = true then some (if t = v then u else t) else none

theorem usedT_iff {T N ga rb : Nat} {q : Bool} {t : Nat} : usedT T N ga rb q t = true ↔ (t = 7 ∧ q = true) ∨ t = 23 ∨ (T ≤ t ∧ t < T + ga) ∨ (T + N ≤ t ∧ t < T + N + rb) := by
  simp only [usedT, Bool.or_eq_true, Bool.and_eq_true, beq_iff_eq, decide_eq_true_eq, or_assoc]

/-- from blocks that hold a table to the table; the block v may have been the block u -/
theorem le_tab {T N M n ga rb v u : Nat} {q : Option (List D)} {C : Nat → List D} {sl sl' cs cs' : List D} {h0 : Heap} {b ver : Nat} {L : List Blk} (hl : LowH n h0) (hT : 23 < T) (hga : ga ≤ N) (hrb : rb ≤ N * M)
    (hu : u < T + N + N * M) (hv : v = u ∨ (T ≤ v ∧ usedT T N ga rb q.isSome u = false)) (hlen : L.length = T + N + N * M)
    (h7 : ∀ c, q = some c → L.getD 7 blk0 = ⟨1, .cells c⟩ ∧ ∀ d ∈ c, Low n d)
    (h23 : ∃ R, L.getD 23 blk0 = ⟨1, .cells R⟩ ∧ R.length = N ∧ ∀ r, r < N → nth R r = if r < ga then .ref 1 (n + (if T + r = v then u else T + r)) 1 0 M else .nils)
    (hg : ∀ r, r < ga → ∃ G, L.getD (if T + r = v then u else T + r) blk0 = ⟨1, .cells G⟩ ∧ G.length = M ∧ ∀ i, i < M → nth G i = if r * M + i < rb then .ref 3 (n + (if T + N + (r * M + i) = v then u else T + N + (r * M + i))) 1 0 M else .nils)
    (hr : ∀ r, r < rb → ∃ C0, L.getD (if T + N + r = v then u else T + N + r) blk0 = ⟨1, .cells C0⟩ ∧ (C r).length ≤ C0.length ∧ ∀ j, j < (C r).length → (nth C0 j = nth (C r) j ∧ Low n (nth (C r) j)) ∨ (nth C0 j = .nils ∧ nth (C r) j = .lst []))
    (hc : CWL n (T + N + N * M) (sgT T N ga rb q.isSome v u) cs cs') (hs : CWL n (T + N + N * M) (sgT T N ga rb q.isSome v u) sl sl') :
    Le (St.mk n sl (upd h0 b ⟨ver, .cells cs⟩) L) (St.mk n sl' (upd h0 b ⟨ver, .cells cs'⟩) (tabL T N M n ga rb q C)) := by
  have yes : ∀ {t}, usedT T N ga rb q.isSome t = true → sgT T N ga rb q.isSome v u t = some (if t = v then u else t) := fun h => by unfold sgT; rw [if_pos h]
  refine le_map (sgT T N ga rb q.isSome v u) hl ⟨hlen, fun t ht hs => ?_, fun t w ht hs => ?_, fun t t' w ht ht' h1 h2 => ?_⟩ hc hs
  · have hn : ¬ usedT T N ga rb q.isSome t = true := fun h => by rw [yes h] at hs; cases hs
    rw [usedT_iff] at hn
    unfold tabB
    by_cases e7 : t = 7
    · rw [if_pos e7]
      cases q with
      | none => rfl
      | some c => exact absurd (.inl ⟨e7, rfl⟩) hn
    · rw [if_neg e7, if_neg (fun h => hn (.inr (.inl h))), if_neg (fun h => hn (.inr (.inr (.inl h)))), if_neg (fun h => hn (.inr (.inr (.inr h))))]
  · have hu2 : usedT T N ga rb q.isSome t = true := by
      unfold sgT at hs
      split at hs
      · assumption
      · cases hs
    have hw : w = if t = v then u else t := by rw [yes hu2] at hs; exact (Option.some.inj hs).symm
    have hwK : w < T + N + N * M := by rw [hw]; split <;> omega
    refine ⟨hwK, ?_⟩
    unfold tabB
    rw [usedT_iff] at hu2
    by_cases e7 : t = 7
    · rw [if_pos e7]
      cases hq : q with
      | none =>
        subst hq
        rcases hu2 with ⟨_, h⟩ | h | h | h
        · cases h
        · omega
        · omega
        · omega
      | some c =>
        obtain ⟨a1, a2⟩ := h7 c hq
        have : w = 7 := by
          rw [hw]
          rcases hv with hv | ⟨hv, _⟩
          · split <;> omega
          · rw [if_neg (by omega)]; exact e7
        rw [this]
        exact ⟨c, c, a1, rfl, Nat.le_refl _, fun j hj => .low _ (a2 _ (by unfold nth; simp [List.getD, hj]))⟩
    · rw [if_neg e7]
      by_cases e23 : t = 23
      · rw [if_pos e23]
        have : w = 23 := by
          rw [hw]
          rcases hv with hv | ⟨hv, _⟩
          · split <;> omega
          · rw [if_neg (by omega)]; exact e23
        rw [this]
        obtain ⟨R, r1, r2, r3⟩ := h23
        refine ⟨R, _, r1, rfl, by rw [refsG_len, r2]; exact Nat.le_refl _, fun r hr' => ?_⟩
        rw [refsG_len] at hr'
        rw [r3 r hr', nth_refsG hr']
        by_cases hrg : r < ga
        · rw [if_pos hrg, if_pos hrg]
          exact .ref 1 _ (T + r) M (by omega) (yes (usedT_iff.2 (.inr (.inr (.inl (by omega))))))
        · rw [if_neg hrg, if_neg hrg]; exact .low _ .nils
      · rw [if_neg e23]
        by_cases eg : T ≤ t ∧ t < T + ga
        · rw [if_pos eg]
          obtain ⟨G, g1, g2, g3⟩ := hg (t - T) (by omega)
          rw [show T + (t - T) = t by omega, ← hw] at g1
          refine ⟨G, _, g1, rfl, by rw [refsR_len, g2]; exact Nat.le_refl _, fun i hi => ?_⟩
          rw [refsR_len] at hi
          rw [g3 i hi, nth_refsR hi]
          by_cases hib : (t - T) * M + i < rb
          · rw [if_pos hib, if_pos hib]
            exact .ref 3 _ (T + N + ((t - T) * M + i)) M (by omega) (yes (usedT_iff.2 (.inr (.inr (.inr (by omega))))))
          · rw [if_neg hib, if_neg hib]; exact .low _ .nils
        · rw [if_neg eg]
          have er : T + N ≤ t ∧ t < T + N + rb := by
            rcases hu2 with h | h | h | h
            · exact absurd h.1 e7
            · exact absurd h e23
            · exact absurd h eg
            · exact h
          rw [if_pos er]
          obtain ⟨C0, c1, c2, c3⟩ := hr (t - (T + N)) (by omega)
          rw [show T + N + (t - (T + N)) = t by omega, ← hw] at c1
          refine ⟨C0, _, c1, rfl, c2, fun j hj => ?_⟩
          rcases c3 j hj with ⟨c4, c5⟩ | ⟨c4, c5⟩
          · rw [c4]; exact .low _ c5
          · rw [c4, c5]; exact .nilsL
  · have key : ∀ t, sgT T N ga rb q.isSome v u t = some w → usedT T N ga rb q.isSome t = true ∧ w = if t = v then u else t := fun t h => by
      unfold sgT at h
      split at h
      · exact ⟨by assumption, (Option.some.inj h).symm⟩
      · cases h
    obtain ⟨u1, e1⟩ := key t h1
    obtain ⟨u2, e2⟩ := key t' h2
    rcases hv with hv | ⟨_, hv⟩
    · subst hv
      have f1 : w = t := by rw [e1]; split <;> omega
      have f2 : w = t' := by rw [e2]; split <;> omega
      omega
    · by_cases a1 : t = v
      · by_cases a2 : t' = v
        · omega
        · rw [if_pos a1] at e1
          rw [if_neg a2] at e2
          have : t' = u := by omega
          rw [this, hv] at u2; cases u2
      · by_cases a2 : t' = v
        · rw [if_neg a1] at e1
          rw [if_pos a2] at e2
          have : t = u := by omega
          rw [this, hv] at u1; cases u1
        · rw [if_neg a1] at e1
          rw [if_neg a2] at e2
          omega

/-- a list of blocks that holds a table, and other things besides -/
structure Lay (T N M n : Nat) (q : Option (List D)) (C : Nat → List D) (L : List Blk) : Prop where
  len : L.length = T + N + N * M
  b7 : ∀ c, q = some c → L.getD 7 blk0 = ⟨1, .cells c⟩ ∧ ∀ d ∈ c, Low n d
  b23 : L.getD 23 blk0 = ⟨1, .cells (refsG T n M N N)⟩
  bg : ∀ r, r < N → L.getD (T + r) blk0 = ⟨1, .cells (refsR T n M N (N * M) r)⟩
  br : ∀ r, r < N * M → L.getD (T + N + r) blk0 = ⟨1, .cells (C r)⟩ ∧ ∀ d ∈ C r, Low n d

section
variable {T N M n : Nat} {q : Option (List D)} {C : Nat → List D} {L : List Blk}
theorem Lay.tab (hT : 23 < T) (hq : ∀ c, q = some c → ∀ d ∈ c, Low n d) (hC : ∀ r, r < N * M → ∀ d ∈ C r, Low n d) : Lay T N M n q C (tabL T N M n N (N * M) q C) :=
  ⟨tabL_len, fun c hc => ⟨by rw [tab_7 hT, hc]; rfl, hq c hc⟩, tab_23 hT, fun r hr => tab_g hT hr (Nat.le_refl _), fun r hr => ⟨tab_r hT hr (Nat.le_refl _) (Nat.le_refl _), hC r hr⟩⟩
theorem Lay.other (h : Lay T N M n q C L) (hT : 23 < T) {t : Nat} (x : Blk) (h7 : t ≠ 7 ∨ q = none) (h23 : t ≠ 23) (ht : t < T) : Lay T N M n q C (L.set t x) := by
  refine ⟨by rw [List.length_set]; exact h.len, fun c hc => ?_, ?_, fun r hr => ?_, fun r hr => ?_⟩
  · rcases h7 with h7 | h7
    · rw [bgetD_set_ne (by omega)]; exact h.b7 c hc
    · rw [h7] at hc; cases hc
  · rw [bgetD_set_ne (by omega)]; exact h.b23
  · rw [bgetD_set_ne (by omega)]; exact h.bg r hr
  · rw [bgetD_set_ne (by omega)]; exact h.br r hr
theorem Lay.no7 (h : Lay T N M n q C L) : Lay T N M n none C L := ⟨h.len, fun c hc => (by cases hc), h.b23, h.bg, h.br⟩
theorem Lay.set7 (h : Lay T N M n q C L) (hT : 23 < T) {c : List D} (hc : ∀ d ∈ c, Low n d) : Lay T N M n (some c) C (L.set 7 ⟨1, .cells c⟩) := by
  have h1 := h.no7.other hT (t := 7) ⟨1, .cells c⟩ (.inr rfl) (by omega) (by omega)
  exact ⟨h1.len, fun c' hc' => (by injection hc' with hc'; subst hc'; exact ⟨bgetD_set_eq (by rw [h.len]; omega), hc⟩), h1.b23, h1.bg, h1.br⟩
theorem Lay.row (h : Lay T N M n q C L) (hT : 23 < T) {k : Nat} (hk : k < N * M) {c : List D} (hc : ∀ d ∈ c, Low n d) {C' : Nat → List D} (hC : ∀ r, r < N * M → C' r = if r = k then c else C r) : Lay T N M n q C' (L.set (T + N + k) ⟨1, .cells c⟩) := by
  refine ⟨by rw [List.length_set]; exact h.len, fun c hc => ?_, ?_, fun r hr => ?_, fun r hr => ?_⟩
  · rw [bgetD_set_ne (by omega)]; exact h.b7 c hc
  · rw [bgetD_set_ne (by omega)]; exact h.b23
  · rw [bgetD_set_ne (by omega)]; exact h.bg r hr
  · rw [hC r hr]
    by_cases e : r = k
    · subst e; rw [if_pos rfl, bgetD_set_eq (by rw [h.len]; omega)]; exact ⟨rfl, hc⟩
    · rw [if_neg e, bgetD_set_ne (by omega)]; exact h.br r hr
theorem Lay.le {sl sl' cs cs' : List D} {h0 : Heap} {b ver : Nat} (h : Lay T N M n q C L) (hl : LowH n h0) (hT : 23 < T)
    (hc : CWL n (T + N + N * M) (sgT T N N (N * M) q.isSome 0 0) cs cs') (hs : CWL n (T + N + N * M) (sgT T N N (N * M) q.isSome 0 0) sl sl') :
    Le (St.mk n sl (upd h0 b ⟨ver, .cells cs⟩) L) (St.mk n sl' (upd h0 b ⟨ver, .cells cs'⟩) (tabL T N M n N (N * M) q C)) := by
  have e0 : ∀ t : Nat, (if t = 0 then 0 else t) = t := fun t => by split <;> omega
  refine le_tab (v := 0) (u := 0) hl hT (Nat.le_refl _) (Nat.le_refl _) (by omega) (.inl rfl) h.len h.b7 ⟨_, h.b23, refsG_len .., fun r hr => ?_⟩ (fun r hr => ⟨_, by rw [e0]; exact h.bg r hr, refsR_len .., fun i hi => ?_⟩) (fun r hr => ⟨_, by rw [e0]; exact (h.br r hr).1, Nat.le_refl _, fun j hj => .inl ⟨rfl, (h.br r hr).2 _ (by unfold nth; simp [List.getD, hj])⟩⟩) hc hs
  · rw [e0, nth_refsG hr]
  · rw [e0, nth_refsR hi]
theorem sg_23 {q : Bool} : sgT T N N (N * M) q 0 0 23 = some 23 := by simp [sgT, usedT]
theorem sg_7 : sgT T N N (N * M) true 0 0 7 = some 7 := by simp [sgT, usedT]
end
theorem cwl_23 {T N M n len : Nat} {q : Bool} {l l' : List D} (hT : 23 < T) : CWL n (T + N + N * M) (sgT T N N (N * M) q 0 0) (.ref 1 (n + 23) 1 0 len :: l) (.ref 1 (n + 23) 1 0 len :: l') = CWL n (T + N + N * M) (sgT T N N (N * M) q 0 0) l l' := cwl_refS (by omega) sg_23
theorem cwl_7 {T N M n : Nat} {l l' : List D} (hT : 23 < T) : CWL n (T + N + N * M) (sgT T N N (N * M) true 0 0) (.ptr (n + 7) 1 0 :: l) (.ptr (n + 7) 1 0 :: l') = CWL n (T + N + N * M) (sgT T N N (N * M) true 0 0) l l' := cwl_ptrS (by omega) sg_7

end Abs
end Go.Proofs.Ytokdeeagghhliaa
