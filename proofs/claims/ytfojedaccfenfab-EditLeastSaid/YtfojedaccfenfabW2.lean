/- Alignments of words; what a least script does (plain). -/
import Derived.Test.YtfojedaccfenfabW1
import Derived.Test.YtfojedaccfenfabX1
namespace Go.Proofs.Ytfojedaccfenfab
namespace Abs
set_option linter.unusedVariables false
set_option linter.unusedSimpArgs false
set_option maxRecDepth 20000

/-- one word is turned into another by so many deletions and insertions -/
inductive Al : Nat → List Int → List Int → Prop
  | nil : Al 0 [] []
  | keep (x : Int) {n : Nat} {a b : List Int} : Al n a b → Al n (x :: a) (x :: b)
  | del (x : Int) {n : Nat} {a b : List Int} : Al n a b → Al (n + 1) (x :: a) b
  | ins (y : Int) {n : Nat} {a b : List Int} : Al n a b → Al (n + 1) a (y :: b)

theorem Al.symm {n : Nat} {a b : List Int} (h : Al n a b) : Al n b a := by
  induction h with
  | nil => exact .nil
  | keep x _ ih => exact .keep x ih
  | del x _ ih => exact .ins x ih
  | ins y _ ih => exact .del y ih

theorem Al.comp {n : Nat} {a b : List Int} (h1 : Al n a b) : ∀ {m : Nat} {c : List Int}, Al m b c → ∃ k, k ≤ n + m ∧ Al k a c := by
  induction h1 with
  | nil => exact fun {m c} h2 => ⟨m, by omega, h2⟩
  | del x _ ih =>
    intro m c h2
    obtain ⟨k, hk, h⟩ := ih h2
    exact ⟨k + 1, by omega, .del x h⟩
  | @keep x n a b h1 ih =>
    intro m c h2
    generalize hB : x :: b = B at h2
    induction h2 with
    | nil => cases hB
    | keep y h2 _ =>
      injection hB with e1 e2
      subst e1; subst e2
      obtain ⟨k, hk, h⟩ := ih h2
      exact ⟨k, hk, .keep x h⟩
    | del y h2 _ =>
      injection hB with e1 e2
      subst e1; subst e2
      obtain ⟨k, hk, h⟩ := ih h2
      exact ⟨k + 1, by omega, .del x h⟩
    | ins y h2 ih2 =>
      obtain ⟨k, hk, h⟩ := ih2 hB
      exact ⟨k + 1, by omega, .ins y h⟩
  | @ins x n a b h1 ih =>
    intro m c h2
    generalize hB : x :: b = B at h2
    induction h2 with
    | nil => cases hB
    | keep y h2 _ =>
      injection hB with e1 e2
      subst e1; subst e2
      obtain ⟨k, hk, h⟩ := ih h2
      exact ⟨k + 1, by omega, .ins x h⟩
    | del y h2 _ =>
      injection hB with e1 e2
      subst e1; subst e2
      obtain ⟨k, hk, h⟩ := ih h2
      exact ⟨k, by omega, h⟩
    | ins y h2 ih2 =>
      obtain ⟨k, hk, h⟩ := ih2 hB
      exact ⟨k + 1, by omega, .ins y h⟩

theorem dE_stepA (x : Int) (a b : List Int) : dE (x :: a) b ≤ dE a b + 1 := by
  have h := (cE_step _ a b (Nat.le_refl _)).2.1 x
  rw [dE_eq, dE_eq]; simp only [List.length_cons]; omega
theorem dE_stepB (y : Int) (a b : List Int) : dE a (y :: b) ≤ dE a b + 1 := by
  have h := (cE_step _ a b (Nat.le_refl _)).2.2 y
  rw [dE_eq, dE_eq]; simp only [List.length_cons]; omega
theorem Al.low {n : Nat} {a b : List Int} (h : Al n a b) : dE a b ≤ n := by
  induction h with
  | nil => rw [dE_nil]; simp
  | keep x _ ih => rw [dE_cons, if_pos rfl]; exact ih
  | @del x n a b _ ih => have := dE_stepA x a b; omega
  | @ins y n a b _ ih => have := dE_stepB y a b; omega
theorem Al.best : ∀ (k : Nat) (a b : List Int), a.length + b.length ≤ k → ∃ n : Nat, dE a b = n ∧ Al n a b := by
  intro k
  induction k with
  | zero =>
    intro a b hk
    have ha : a = [] := List.eq_nil_of_length_eq_zero (by omega)
    have hb : b = [] := List.eq_nil_of_length_eq_zero (by omega)
    subst ha; subst hb
    exact ⟨0, by rw [dE_nil]; simp, .nil⟩
  | succ k ih =>
    intro a b hk
    cases a with
    | nil =>
      cases b with
      | nil => exact ⟨0, by rw [dE_nil]; simp, .nil⟩
      | cons y b =>
        obtain ⟨n, h1, h2⟩ := ih [] b (by simp at hk ⊢; omega)
        rw [dE_nil] at h1
        exact ⟨n + 1, by rw [dE_nil]; simp at h1 ⊢; omega, .ins y h2⟩
    | cons x a =>
      cases b with
      | nil =>
        obtain ⟨n, h1, h2⟩ := ih a [] (by simp at hk ⊢; omega)
        rw [dE_nil2] at h1
        exact ⟨n + 1, by rw [dE_nil2]; simp at h1 ⊢; omega, .del x h2⟩
      | cons y b =>
        simp only [List.length_cons] at hk
        rw [dE_cons]
        by_cases he : x = y
        · subst he
          obtain ⟨n, h1, h2⟩ := ih a b (by omega)
          exact ⟨n, by rw [if_pos rfl]; exact h1, .keep x h2⟩
        · rw [if_neg he]
          obtain ⟨n, h1, h2⟩ := ih a (y :: b) (by simp; omega)
          obtain ⟨m, h3, h4⟩ := ih (x :: a) b (by simp; omega)
          by_cases hc : n ≤ m
          · exact ⟨n + 1, by rw [h1, h3]; omega, .del x h2⟩
          · exact ⟨m + 1, by rw [h1, h3]; omega, .ins y h4⟩

theorem dE_symm (a b : List Int) : dE a b = dE b a := by
  obtain ⟨n, h1, h2⟩ := Al.best _ a b (Nat.le_refl _)
  obtain ⟨m, h3, h4⟩ := Al.best _ b a (Nat.le_refl _)
  have h5 := h2.symm.low
  have h6 := h4.symm.low
  omega
theorem dE_tri (a b c : List Int) : dE a c ≤ dE a b + dE b c := by
  obtain ⟨n, h1, h2⟩ := Al.best _ a b (Nat.le_refl _)
  obtain ⟨m, h3, h4⟩ := Al.best _ b c (Nat.le_refl _)
  obtain ⟨k, hk, h⟩ := h2.comp h4
  have := h.low
  omega

theorem Al.same : ∀ s : List Int, Al 0 s s
  | [] => .nil
  | x :: s => .keep x (Al.same s)
theorem Al.inss {n : Nat} {a b : List Int} (h : Al n a b) : ∀ w : List Int, Al (n + w.length) a (w ++ b)
  | [] => h
  | x :: w => .ins x (h.inss w)
theorem Al.dels {n : Nat} {a b : List Int} (h : Al n a b) : ∀ w : List Int, Al (n + w.length) (w ++ a) b
  | [] => h
  | x :: w => .del x (h.dels w)
theorem Al.keeps {n : Nat} {a b : List Int} (h : Al n a b) : ∀ w : List Int, Al n (w ++ a) (w ++ b)
  | [] => h
  | x :: w => .keep x (h.keeps w)

theorem lcp_take : ∀ a b : List Int, a.take (lcp a b) = b.take (lcp a b)
  | [], b => by simp [lcp]
  | x :: a, [] => by simp [lcp]
  | x :: a, y :: b => by
    have := lcp_take a b
    unfold lcp
    split
    · rename_i e; subst e; simp [this]
    · simp
theorem change_al (a b : List Int) : dE a b ≤ (changeE a b).t - (changeE a b).f + (changeE a b).w.length := by
  obtain ⟨k, hk⟩ : ∃ k, lcp a b = k := ⟨_, rfl⟩
  obtain ⟨s, hs⟩ : ∃ s, lcs a b k = s := ⟨_, rfl⟩
  have h0 := lcp_le a b
  have h1 := lcs_le a b k
  have t1 := lcp_take a b
  have t2 := lcp_take (a.drop k).reverse (b.drop k).reverse
  rw [hk] at h0 t1
  rw [show lcp (a.drop k).reverse (b.drop k).reverse = s from hs] at t2
  rw [hs] at h1
  have t3 : a.drop (a.length - s) = b.drop (b.length - s) := by
    have := congrArg List.reverse t2
    rw [List.take_reverse, List.take_reverse, List.reverse_reverse, List.reverse_reverse, List.drop_drop, List.drop_drop] at this
    simp only [List.length_drop] at this
    rw [show k + (a.length - k - s) = a.length - s by omega, show k + (b.length - k - s) = b.length - s by omega] at this
    exact this
  have split : ∀ l : List Int, k ≤ l.length - s → l = l.take k ++ ((l.take (l.length - s)).drop k ++ l.drop (l.length - s)) := fun l hl => by
    have e1 : l.take (l.length - s) = l.take k ++ (l.take (l.length - s)).drop k := by
      conv => lhs; rw [← List.take_append_drop k (l.take (l.length - s))]
      rw [List.take_take, Nat.min_eq_left hl]
    conv => lhs; rw [← List.take_append_drop (l.length - s) l, e1]
    rw [List.append_assoc]
  have sa := split a (by omega)
  have sb := split b (by omega)
  obtain ⟨X, hX⟩ : ∃ X, (a.take (a.length - s)).drop k = X := ⟨_, rfl⟩
  obtain ⟨Y, hY⟩ : ∃ Y, (b.take (b.length - s)).drop k = Y := ⟨_, rfl⟩
  have hal := ((((Al.same (a.drop (a.length - s))).inss Y).dels X).keeps (a.take k)).low
  rw [hX] at sa
  rw [hY, ← t1, ← t3] at sb
  rw [← sa, ← sb] at hal
  unfold changeE
  rw [hk, hs]
  simp only
  have l1 : X.length = a.length - s - k := by rw [← hX]; simp
  rw [hY]
  omega

/-! ### the script -/
def okS (n : Nat) : Int → List Ed → Prop
  | p, [] => True
  | p, e :: l => p ≤ e.f ∧ e.f ≤ e.t ∧ e.t ≤ n ∧ okS n (e.t + 1) l
def costE (l : List Ed) : Int := (l.map fun e : Ed => e.t - e.f + ((e.w.length : Nat) : Int)).sum
theorem costE_cons (e : Ed) (l : List Ed) : costE (e :: l) = e.t - e.f + e.w.length + costE l := by simp [costE]
theorem okS_mono {n : Nat} {p q : Int} (h : q ≤ p) : ∀ {l : List Ed}, okS n p l → okS n q l
  | [], _ => trivial
  | e :: l, ⟨h1, h2, h3, h4⟩ => ⟨by omega, h2, h3, h4⟩
theorem tailR_step {w : List Int} {i : Nat} (hi : i < w.length) : ∀ {l : List Ed}, okS w.length ((i : Int) + 1) l → tailR w i l = w[i] :: tailR w ((i : Int) + 1) l
  | [], _ => by
    rw [tailR, tailR, show ((i : Int) + 1).toNat = i + 1 by omega, Int.toNat_natCast, List.drop_eq_getElem_cons hi]
  | e :: l, ⟨h1, _, _, _⟩ => by
    rw [tailR, tailR, show ((i : Int) + 1).toNat = i + 1 by omega, Int.toNat_natCast, List.drop_eq_getElem_cons hi, show (e.f - (i : Int)).toNat = (e.f - ((i : Int) + 1)).toNat + 1 by omega, List.take_succ_cons]
    rfl

theorem scr_law (a b : List Int) : ∀ (k i j : Nat), a.length - i + (b.length - j) ≤ k → i ≤ a.length → j ≤ b.length →
    (okS a.length i (scrAt a b i j none) ∧ tailR a i (scrAt a b i j none) = b.drop j ∧ costE (scrAt a b i j none) = dG a b i j) ∧
    ∀ e : Ed, e.t = i → 0 ≤ e.f → e.f ≤ i → ∃ (t : Int) (w' : List Int) (r : List Ed), scrAt a b i j (some e) = ⟨e.f, t, e.w ++ w'⟩ :: r ∧ (i : Int) ≤ t ∧ t ≤ a.length ∧ okS a.length (t + 1) r ∧ w' ++ tailR a t r = b.drop j ∧ t - i + w'.length + costE r = dG a b i j := by
  intro k
  induction k with
  | zero =>
    intro i j hk hi hj
    have h1 : scrAt a b i j none = [] := scrAt_end a b (by omega) (by omega) none
    have hd : dG a b i j = 0 := by rw [dG, List.drop_eq_nil_of_le (by omega), dE_nil, List.drop_eq_nil_of_le (by omega)]; rfl
    have e1 : a.drop i = [] := List.drop_eq_nil_of_le (by omega)
    have e2 : b.drop j = [] := List.drop_eq_nil_of_le (by omega)
    refine ⟨⟨by rw [h1]; trivial, by rw [h1, tailR, Int.toNat_natCast, e1, e2], by rw [h1, hd]; rfl⟩, fun e h2 h3 h4 => ⟨i, [], [], ?_, Int.le_refl _, by omega, trivial, ?_, ?_⟩⟩
    · rw [scrAt_end a b (by omega) (by omega), List.append_nil, ← h2]; rfl
    · rw [tailR, Int.toNat_natCast, e1, e2]; rfl
    · rw [hd]; simp [costE]
  | succ k ih =>
    intro i j hk hi hj
    -- an edit that is open, from here
    have key : ∀ e : Ed, e.t = i → 0 ≤ e.f → e.f ≤ i → ∃ (t : Int) (w' : List Int) (r : List Ed), scrAt a b i j (some e) = ⟨e.f, t, e.w ++ w'⟩ :: r ∧ (i : Int) ≤ t ∧ t ≤ a.length ∧ okS a.length (t + 1) r ∧ w' ++ tailR a t r = b.drop j ∧ t - i + w'.length + costE r = dG a b i j := by
      intro e h2 h3 h4
      by_cases hia : i < a.length
      · by_cases hjb : j < b.length
        · by_cases hc : a[i] = b[j]
          · obtain ⟨⟨q1, q2, q3⟩, _⟩ := ih (i + 1) (j + 1) (by omega) (by omega) (by omega)
            refine ⟨i, [], scrAt a b (i + 1) (j + 1) none, ?_, Int.le_refl _, by omega, q1, ?_, ?_⟩
            · rw [scrAt_same hia hjb hc, List.append_nil, ← h2]; rfl
            · rw [List.nil_append, tailR_step hia q1, List.drop_eq_getElem_cons hjb, hc]
              exact congrArg _ q2
            · have : dG a b i j = dG a b (i + 1) (j + 1) := by
                unfold dG; rw [List.drop_eq_getElem_cons hia, List.drop_eq_getElem_cons hjb, dE_cons, if_pos hc]
              rw [this, ← q3]; simp
          · by_cases hd : dG a b i j = 1 + dG a b (i + 1) j
            · obtain ⟨_, q⟩ := ih (i + 1) j (by omega) (by omega) hj
              obtain ⟨t, w', r, s1, s2, s3, s4, s5, s6⟩ := q { e with t := ((i + 1 : Nat) : Int) } rfl h3 (by simp only; omega)
              refine ⟨t, w', r, ?_, by omega, s3, s4, s5, by omega⟩
              rw [scrAt_del hia (.inr ⟨hjb, hc, hd⟩)]; exact s1
            · obtain ⟨_, q⟩ := ih i (j + 1) (by omega) hi (by omega)
              obtain ⟨t, w', r, s1, s2, s3, s4, s5, s6⟩ := q { e with w := e.w ++ [b[j]] } h2 h3 h4
              have hm : dG a b i j = 1 + dG a b i (j + 1) := by
                have h9 : dG a b i j = 1 + min (dG a b (i + 1) j) (dG a b i (j + 1)) := by
                  unfold dG
                  conv => lhs; rw [List.drop_eq_getElem_cons hia, List.drop_eq_getElem_cons hjb]
                  rw [dE_cons, if_neg hc, ← List.drop_eq_getElem_cons hia, ← List.drop_eq_getElem_cons hjb]
                omega
              refine ⟨t, b[j] :: w', r, ?_, s2, s3, s4, ?_, ?_⟩
              · rw [scrAt_ins hjb (.inr ⟨hia, hc, hd⟩)]
                simpa using s1
              · rw [List.cons_append, s5, ← List.drop_eq_getElem_cons hjb]
              · rw [hm, ← s6]; simp; omega
        · obtain ⟨_, q⟩ := ih (i + 1) j (by omega) (by omega) hj
          obtain ⟨t, w', r, s1, s2, s3, s4, s5, s6⟩ := q { e with t := ((i + 1 : Nat) : Int) } rfl h3 (by simp only; omega)
          have hd := dG_end (a := a) (b := b) hia (show b.length ≤ j by omega)
          refine ⟨t, w', r, ?_, by omega, s3, s4, s5, by omega⟩
          rw [scrAt_del hia (.inl (by omega))]; exact s1
      · by_cases hjb : j < b.length
        · obtain ⟨_, q⟩ := ih i (j + 1) (by omega) hi (by omega)
          obtain ⟨t, w', r, s1, s2, s3, s4, s5, s6⟩ := q { e with w := e.w ++ [b[j]] } h2 h3 h4
          have hm : dG a b i j = 1 + dG a b i (j + 1) := by
            unfold dG
            rw [List.drop_eq_nil_of_le (show a.length ≤ i by omega), dE_nil, dE_nil]; simp; omega
          refine ⟨t, b[j] :: w', r, ?_, s2, s3, s4, ?_, ?_⟩
          · rw [scrAt_ins hjb (.inl (by omega))]
            simpa using s1
          · rw [List.cons_append, s5, ← List.drop_eq_getElem_cons hjb]
          · rw [hm, ← s6]; simp; omega
        · refine ⟨i, [], [], ?_, Int.le_refl _, by omega, trivial, ?_, ?_⟩
          · rw [scrAt_end a b (by omega) (by omega), List.append_nil, ← h2]; rfl
          · rw [tailR, Int.toNat_natCast, List.drop_eq_nil_of_le (by omega), List.drop_eq_nil_of_le (by omega)]; rfl
          · rw [dG, List.drop_eq_nil_of_le (by omega), dE_nil, List.drop_eq_nil_of_le (by omega)]; simp [costE]
    refine ⟨?_, key⟩
    by_cases hc : ∃ (hia : i < a.length) (hjb : j < b.length), a[i] = b[j]
    · obtain ⟨hia, hjb, hc⟩ := hc
      obtain ⟨⟨q1, q2, q3⟩, _⟩ := ih (i + 1) (j + 1) (by omega) (by omega) (by omega)
      rw [scrAt_same hia hjb hc]
      simp only [Option.toList_none, List.nil_append]
      refine ⟨okS_mono (by omega) q1, ?_, ?_⟩
      · rw [tailR_step hia q1, List.drop_eq_getElem_cons hjb, hc]
        exact congrArg _ q2
      · have : dG a b i j = dG a b (i + 1) (j + 1) := by
          unfold dG; rw [List.drop_eq_getElem_cons hia, List.drop_eq_getElem_cons hjb, dE_cons, if_pos hc]
        rw [this, ← q3]
    · by_cases he : a.length ≤ i ∧ b.length ≤ j
      · have h1 : scrAt a b i j none = [] := scrAt_end a b he.1 he.2 none
        refine ⟨by rw [h1]; trivial, by rw [h1, tailR, Int.toNat_natCast, List.drop_eq_nil_of_le he.1, List.drop_eq_nil_of_le he.2], ?_⟩
        rw [h1, dG, List.drop_eq_nil_of_le he.1, dE_nil, List.drop_eq_nil_of_le he.2]; rfl
      · -- no match: as if an empty edit were open
        have hn : scrAt a b i j none = scrAt a b i j (some ⟨i, i, []⟩) := by
          by_cases hia : i < a.length
          · by_cases hjb : j < b.length
            · have hc' : a[i] ≠ b[j] := fun h => hc ⟨hia, hjb, h⟩
              by_cases hd : dG a b i j = 1 + dG a b (i + 1) j
              · rw [scrAt_del hia (.inr ⟨hjb, hc', hd⟩), scrAt_del hia (.inr ⟨hjb, hc', hd⟩)]; rfl
              · rw [scrAt_ins hjb (.inr ⟨hia, hc', hd⟩), scrAt_ins hjb (.inr ⟨hia, hc', hd⟩)]; rfl
            · have hjl : b.length ≤ j := by omega
              rw [scrAt_del hia (.inl hjl), scrAt_del hia (.inl hjl)]; rfl
          · have hjb : j < b.length := by omega
            rw [scrAt_ins hjb (.inl (by omega)), scrAt_ins hjb (.inl (by omega))]; rfl
        obtain ⟨t, w', r, s1, s2, s3, s4, s5, s6⟩ := key ⟨i, i, []⟩ rfl (by show (0 : Int) ≤ (i : Int); omega) (Int.le_refl _)
        rw [hn, s1]
        simp only [List.nil_append]
        refine ⟨⟨Int.le_refl _, s2, s3, s4⟩, ?_, ?_⟩
        · rw [tailR]; simp only [Int.sub_self]; exact s5
        · rw [costE_cons]; exact s6

theorem okS_ix {n : Nat} : ∀ {l : List Ed} {p : Int}, okS n p l → ∀ i, i < l.length → (i = 0 → p ≤ (edAt l i).f) ∧ (0 < i → (edAt l (i - 1)).t < (edAt l i).f) ∧ (edAt l i).f ≤ (edAt l i).t ∧ (edAt l i).t ≤ n
  | [], p, _, i, hi => by simp at hi
  | e :: l, p, ⟨h1, h2, h3, h4⟩, 0, hi => ⟨fun _ => h1, fun h => by omega, h2, h3⟩
  | e :: l, p, ⟨h1, h2, h3, h4⟩, 1, hi => by
    have := okS_ix h4 0 (by simpa using hi)
    have h5 := this.1 rfl
    refine ⟨fun h => by omega, fun _ => ?_, this.2.2⟩
    show e.t < (edAt l 0).f
    omega
  | e :: l, p, ⟨h1, h2, h3, h4⟩, i + 2, hi => by
    have := okS_ix h4 (i + 1) (by simp only [List.length_cons] at hi; omega)
    exact ⟨fun h => by omega, fun _ => this.2.1 (by omega), this.2.2⟩
theorem okS_up {n : Nat} {l : List Ed} (h : okS n 0 l) : okUp n l l.length := fun i hi => by
  obtain ⟨h1, h2, h3, h4⟩ := okS_ix h i hi
  unfold okIx
  by_cases hi0 : i = 0
  · have := h1 hi0
    rw [atK, if_pos hi0]
    exact ⟨this, fun h => by omega, h3, h4⟩
  · have := h2 (by omega)
    rw [atK, if_neg hi0]
    exact ⟨by omega, fun _ => this, h3, h4⟩
theorem tailR_len {w : List Int} : ∀ {l : List Ed} {p : Int}, okL w.length p l → ((tailR w p l).length : Int) = w.length - p + (l.map shiftE).sum
  | [], p, h => by
    obtain ⟨h1, h2⟩ := h
    rw [tailR]; simp; omega
  | e :: l, p, h => by
    obtain ⟨h0, h1, h2, h3, h4⟩ := h
    have ih := tailR_len h4
    rw [tailR]
    simp only [List.length_append, List.length_take, List.length_drop, List.map_cons, List.sum_cons]
    simp only [shiftE]
    push_cast
    omega

/-- a least script, run: it leads to the other word, at the distance's cost -/
theorem scr_run (a b : List Int) (hb : b.length ≤ 2000) : runF a.length (scrAt a b 0 0 none) = 0 ∧ runB a (scrAt a b 0 0 none) = b ∧ costE (scrAt a b 0 0 none) = dE a b := by
  obtain ⟨⟨h1, h2, h3⟩, _⟩ := scr_law a b _ 0 0 (Nat.le_refl _) (Nat.zero_le _) (Nat.zero_le _)
  have hok := okS_up h1
  have hL := okUp_drop hok _ 0 (Nat.zero_add _)
  rw [List.drop_zero] at hL
  have hB := runB_eq hL
  have hT : tailR a (atK (scrAt a b 0 0 none) 0) (scrAt a b 0 0 none) = b := h2
  rw [hT] at hB
  have hl := tailR_len hL
  rw [hT] at hl
  refine ⟨?_, by rw [hB]; simp [atK], h3⟩
  rw [runF, if_pos hok, if_neg]
  have e1 : shK (scrAt a b 0 0 none) (scrAt a b 0 0 none).length = ((scrAt a b 0 0 none).map shiftE).sum := by rw [shK, List.take_length]
  have e2 : atK (scrAt a b 0 0 none) 0 = 0 := rfl
  rw [e1]
  rw [e2] at hl
  omega

end Abs
end Go.Proofs.Ytfojedaccfenfab
