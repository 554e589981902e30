/- Words in their order; what a grammar derives; a row holds the least. Plain. -/
import Derived.Test.YtokdeeagghhliaaO21
namespace Go.Proofs.Ytokdeeagghhliaa
namespace Abs
set_option linter.unusedVariables false
set_option linter.unusedSimpArgs false
set_option maxRecDepth 20000

/-! ### words -/
theorem cmpL_self : ∀ l : List Int, cmpL l l = 0
  | [] => rfl
  | a :: l => by rw [cmpL, if_pos (by simp [cmpI]), cmpL_self l]
theorem cmpL_eq : ∀ {l m : List Int}, cmpL l m = 0 → l = m
  | [], [], _ => rfl
  | [], _ :: _, h => by simp [cmpL] at h
  | _ :: _, [], h => by simp [cmpL] at h
  | a :: l, b :: m, h => by
    rw [cmpL] at h
    split at h
    · rename_i e; rw [cmpI_zero e, cmpL_eq h]
    · rename_i e; exact absurd h e
theorem cmpI_swap (a b : Int) : cmpI a b = - cmpI b a := by unfold cmpI; split <;> split <;> (try split) <;> omega
theorem cmpL_swap : ∀ l m : List Int, cmpL l m = - cmpL m l
  | [], [] => rfl
  | [], _ :: _ => rfl
  | _ :: _, [] => rfl
  | a :: l, b :: m => by
    rw [cmpL, cmpL, cmpI_swap a b, cmpL_swap l m]
    by_cases h : cmpI b a = 0
    · rw [if_pos (by omega), if_pos h]
    · rw [if_neg (by omega), if_neg h]
theorem cmpI_le {a b : Int} (h : cmpI a b ≤ 0) : a ≤ b := by
  unfold cmpI at h
  split at h
  · omega
  · split at h <;> omega
theorem cmpI_of_lt {a b : Int} (h : a < b) : cmpI a b = -1 := by unfold cmpI; rw [if_pos h]
theorem cmpL_trans : ∀ {l m k : List Int}, cmpL l m ≤ 0 → cmpL m k ≤ 0 → cmpL l k ≤ 0
  | [], _, [], _, _ => by simp [cmpL]
  | [], _, _ :: _, _, _ => by simp [cmpL]
  | _ :: _, [], _, h, _ => by simp [cmpL] at h
  | _ :: _, _ :: _, [], _, h => by simp [cmpL] at h
  | a :: l, b :: m, c :: k, h1, h2 => by
    rw [cmpL] at h1 h2 ⊢
    by_cases e1 : cmpI a b = 0
    · rw [if_pos e1] at h1
      rw [cmpI_zero e1]
      by_cases e2 : cmpI b c = 0
      · rw [if_pos e2] at h2 ⊢; exact cmpL_trans h1 h2
      · rw [if_neg e2] at h2 ⊢; exact h2
    · rw [if_neg e1] at h1
      have a1 : a < b := by
        have := cmpI_le h1
        rcases Int.lt_or_eq_of_le this with h | h
        · exact h
        · exact absurd (by unfold cmpI; rw [if_neg (by omega), if_neg (by omega)]) e1
      have a2 : b ≤ c := by
        by_cases e2 : cmpI b c = 0
        · rw [cmpI_zero e2]; exact Int.le_refl _
        · rw [if_neg e2] at h2; exact cmpI_le h2
      rw [cmpI_of_lt (show a < c by omega), if_neg (by omega)]
      omega
theorem cmpL_app : ∀ {a b c d : List Int}, a.length = b.length → cmpL (a ++ c) (b ++ d) = if cmpL a b = 0 then cmpL c d else cmpL a b
  | [], [], c, d, _ => by simp [cmpL]
  | [], _ :: _, _, _, h => by simp at h
  | _ :: _, [], _, _, h => by simp at h
  | x :: a, y :: b, c, d, h => by
    have ih := cmpL_app (a := a) (b := b) (c := c) (d := d) (by simpa using h)
    rw [List.cons_append, List.cons_append, cmpL, cmpL, ih]
    by_cases e : cmpI x y = 0
    · rw [if_pos e, if_pos e]
    · rw [if_neg e, if_neg e, if_neg e]

/-- a word is at most another: it is shorter, or as long and not later; very long words of one length count as equal -/
def leS (u v : List Int) : Prop := u.length < v.length ∨ (u.length = v.length ∧ (2000 < u.length ∨ cmpL u v ≤ 0))
theorem leS_refl (u : List Int) : leS u u := .inr ⟨rfl, .inr (by rw [cmpL_self]; omega)⟩
theorem leS_trans {u v w : List Int} (h1 : leS u v) (h2 : leS v w) : leS u w := by
  rcases h1 with h1 | ⟨h1, h1'⟩ <;> rcases h2 with h2 | ⟨h2, h2'⟩
  · exact .inl (by omega)
  · exact .inl (by omega)
  · exact .inl (by omega)
  · refine .inr ⟨by omega, ?_⟩
    rcases h1' with h1' | h1'
    · exact .inl h1'
    · rcases h2' with h2' | h2'
      · exact .inl (by omega)
      · exact .inr (cmpL_trans h1' h2')
theorem leS_total (u v : List Int) : leS u v ∨ leS v u := by
  rcases Nat.lt_trichotomy u.length v.length with h | h | h
  · exact .inl (.inl h)
  · by_cases hc : cmpL u v ≤ 0
    · exact .inl (.inr ⟨h, .inr hc⟩)
    · exact .inr (.inr ⟨h.symm, .inr (by rw [cmpL_swap]; omega)⟩)
  · exact .inr (.inl h)
theorem leS_app {u u' v v' : List Int} (h1 : leS u u') (h2 : leS v v') : leS (u ++ v) (u' ++ v') := by
  unfold leS
  simp only [List.length_append]
  rcases h1 with h1 | ⟨h1, h1'⟩ <;> rcases h2 with h2 | ⟨h2, h2'⟩
  · exact .inl (by omega)
  · exact .inl (by omega)
  · exact .inl (by omega)
  · refine .inr ⟨by omega, ?_⟩
    rcases h1' with h1' | h1'
    · exact .inl (by omega)
    · rcases h2' with h2' | h2'
      · exact .inl (by omega)
      · refine .inr ?_
        rw [cmpL_app h1]
        split
        · exact h2'
        · exact h1'

/-- a word as a table holds it -/
def valS (w : List Int) : Wd := ⟨true, w.length, if w.length ≤ 2000 then w else []⟩
theorem valS_inj {u v : List Int} (h : valS u = valS v) (hu : u.length ≤ 2000) : u = v := by
  unfold valS at h
  injection h with _ h1 h2
  have : u.length = v.length := by omega
  rw [if_pos hu, if_pos (by omega)] at h2
  exact h2
theorem valS_eq {u v : List Int} (h1 : leS u v) (h2 : leS v u) : valS u = valS v := by
  unfold valS
  rcases h1 with h1 | ⟨h1, h1'⟩
  · rcases h2 with h2 | ⟨h2, _⟩ <;> omega
  · rcases h2 with h2 | ⟨h2, h2'⟩
    · omega
    · by_cases hl : u.length ≤ 2000
      · have e1 : cmpL u v ≤ 0 := by rcases h1' with h | h; · omega
                                     · exact h
        have e2 : cmpL v u ≤ 0 := by rcases h2' with h | h; · omega
                                     · exact h
        have := cmpL_swap u v
        have := cmpL_eq (l := u) (m := v) (by omega)
        rw [this]
      · rw [if_neg hl, if_neg (by omega), h1]
theorem joinW_val (u v : List Int) : joinW (valS u) (valS v) = valS (u ++ v) := by
  unfold joinW valS
  simp only [List.length_append]
  by_cases h : u.length + v.length ≤ 2000
  · rw [if_pos (by omega), if_pos (by omega), if_pos (by omega), if_pos h]
    simp
  · rw [if_neg (by omega), if_neg h]
    simp
/-- shorter tells whether the concatenation is not at least the third word -/
theorem shorterW_val (u v w : List Int) : shorterW (valS u) (valS v) (valS w) = false ↔ leS w (u ++ v) := by
  unfold shorterW
  rw [if_neg (by simp [valS]), if_neg (by simp [valS])]
  have en : ∀ x : List Int, (valS x).n = x.length := fun x => rfl
  have ew : ∀ x : List Int, x.length ≤ 2000 → (valS x).w = x := fun x h => by simp [valS, h]
  rw [en, en, en]
  unfold leS
  rw [List.length_append]
  by_cases h1 : (u.length : Int) + v.length = w.length
  · rw [if_neg (by omega)]
    by_cases h2 : (2000 : Int) < u.length + v.length
    · rw [if_pos h2]
      simp; omega
    · rw [if_neg h2, ew u (by omega), ew v (by omega), ew w (by omega)]
      have ht : (u.length : Int).toNat = u.length := by omega
      rw [ht]
      have hlt : (w.take u.length).length = u.length := by simp; omega
      have key : cmpL w (u ++ v) = if cmpL (w.take u.length) u = 0 then cmpL (w.drop u.length) v else cmpL (w.take u.length) u := by
        have := cmpL_app (a := w.take u.length) (b := u) (c := w.drop u.length) (d := v) hlt
        rwa [List.take_append_drop] at this
      have s1 := cmpL_swap u (w.take u.length)
      have s2 := cmpL_swap v (w.drop u.length)
      simp only [Bool.or_eq_false_iff, Bool.and_eq_false_iff, decide_eq_false_iff_not]
      rw [key]
      by_cases h3 : cmpL (w.take u.length) u = 0
      · rw [if_pos h3]
        constructor
        · rintro ⟨h4, h5⟩
          exact .inr ⟨by omega, .inr (by omega)⟩
        · rintro (h | ⟨_, h | h⟩)
          · omega
          · omega
          · exact ⟨by omega, .inr (by omega)⟩
      · rw [if_neg h3]
        constructor
        · rintro ⟨h4, h5⟩
          exact .inr ⟨by omega, .inr (by omega)⟩
        · rintro (h | ⟨_, h | h⟩)
          · omega
          · omega
          · exact ⟨by omega, .inl (by omega)⟩
  · rw [if_pos h1]
    simp only [decide_eq_false_iff_not]
    omega
theorem shorterW_new (u v : List Int) : shorterW (valS u) (valS v) wd0 = true := by
  unfold shorterW
  rw [if_neg (by simp [valS]), if_pos (show wd0.ok = false from rfl)]
theorem valS_nil : valS [] = wd1 := rfl
theorem valS_one (k : Int) : valS [k] = ⟨true, 1, [k]⟩ := rfl

/-! ### entries of a table -/
/-- an entry is empty, or a word of a kind -/
def Att (S : List Int → Prop) (c : Wd) : Prop := c = wd0 ∨ ∃ w, S w ∧ c = valS w
/-- an entry is at most a word -/
def Bel (c : Wd) (w : List Int) : Prop := ∃ u, c = valS u ∧ leS u w
theorem Bel.ok {c : Wd} {w : List Int} (h : Bel c w) : c.ok = true := by obtain ⟨u, rfl, _⟩ := h; rfl
theorem Bel.le {c : Wd} {w w' : List Int} (h : Bel c w) (hl : leS w w') : Bel c w' := by obtain ⟨u, h1, h2⟩ := h; exact ⟨u, h1, leS_trans h2 hl⟩
theorem Att.mono {S S' : List Int → Prop} {c : Wd} (h : Att S c) (hs : ∀ w, S w → S' w) : Att S' c := h.imp id fun ⟨w, h1, h2⟩ => ⟨w, hs w h1, h2⟩
theorem Att.ok {S : List Int → Prop} {c : Wd} (h : Att S c) (ho : c.ok = true) : ∃ w, S w ∧ c = valS w := by
  rcases h with rfl | h
  · cases ho
  · exact h

/-- an entry that is replaced by a better concatenation -/
theorem better_att {S : List Int → Prop} {Sa Sb : List Int → Prop} {a b c : Wd} (ha : Att Sa a) (hb : Att Sb b) (hs : ∀ u v, Sa u → Sb v → S (u ++ v)) (h : shorterW a b c = true) : Att S (joinW a b) := by
  obtain ⟨o1, o2⟩ := shorter_oks h
  obtain ⟨u, hu, rfl⟩ := ha.ok o1
  obtain ⟨v, hv, rfl⟩ := hb.ok o2
  exact .inr ⟨u ++ v, hs u v hu hv, joinW_val u v⟩
theorem better_bel {S Sa Sb : List Int → Prop} {a b c : Wd} (ha : Att Sa a) (hb : Att Sb b) (hc : Att S c) {w : List Int} (h : Bel c w) : Bel (if shorterW a b c = true then joinW a b else c) w := by
  split
  · rename_i hs
    obtain ⟨o1, o2⟩ := shorter_oks hs
    obtain ⟨u, hu, rfl⟩ := ha.ok o1
    obtain ⟨v, hv, rfl⟩ := hb.ok o2
    obtain ⟨x, rfl, hx⟩ := h
    rw [joinW_val]
    refine ⟨u ++ v, rfl, ?_⟩
    have hn : ¬ leS x (u ++ v) := fun hl => by
      rw [(shorterW_val u v x).2 hl] at hs; cases hs
    exact leS_trans ((leS_total x (u ++ v)).resolve_left hn) hx
  · exact h
theorem better_new {S : List Int → Prop} {a b c : Wd} (hc : Att S c) {u v : List Int} (ha : Bel a u) (hb : Bel b v) : Bel (if shorterW a b c = true then joinW a b else c) (u ++ v) := by
  obtain ⟨u', rfl, hu⟩ := ha
  obtain ⟨v', rfl, hv⟩ := hb
  have hle := leS_app hu hv
  split
  · rw [joinW_val]; exact ⟨_, rfl, hle⟩
  · rename_i hs
    have hs : shorterW (valS u') (valS v') c = false := by simpa using hs
    rcases hc with rfl | ⟨x, _, rfl⟩
    · rw [shorterW_new] at hs; cases hs
    · exact ⟨x, rfl, leS_trans ((shorterW_val u' v' x).1 hs) hle⟩
/-- the same, of a word alone -/
theorem joinW_nil (v : List Int) : joinW (valS v) wd1 = valS v := by rw [← valS_nil, joinW_val, List.append_nil]
theorem better1_bel {S Sa : List Int → Prop} {a c : Wd} (ha : Att Sa a) (hc : Att S c) {w : List Int} (h : Bel c w ∨ Bel a w) : Bel (if shorterW a wd1 c = true then a else c) w := by
  have e : (if shorterW a wd1 c = true then a else c) = (if shorterW a wd1 c = true then joinW a wd1 else c) := by
    split
    · rename_i hs
      obtain ⟨u, hu, rfl⟩ := ha.ok (shorter_oks hs).1
      rw [joinW_nil]
    · rfl
  rw [e]
  rcases h with h | h
  · exact better_bel (Sb := fun w => w = []) ha (.inr ⟨[], rfl, rfl⟩) hc h
  · have := better_new hc h (b := wd1) (v := []) ⟨[], rfl, leS_refl _⟩
    rwa [List.append_nil] at this

/-! ### derivations -/
def seqD (S : Sy → Nat → Nat → List Int → Prop) : List Sy → Nat → Nat → List Int → Prop
  | [], i, j, w => i = j ∧ w = []
  | x :: xs, i, j, w => ∃ m u v, w = u ++ v ∧ S x i m u ∧ seqD S xs m j v
/-- the words that a symbol derives for a part, by trees of a height; base: by a leaf -/
def genD (base : Sy → Nat → Nat → List Int → Prop) (rs : List Ru) : Nat → Sy → Nat → Nat → List Int → Prop
  | 0, x, i, j, w => base x i j w
  | k + 1, x, i, j, w => base x i j w ∨ ∃ r ∈ rs, x = ⟨false, r.left⟩ ∧ seqD (genD base rs k) r.right i j w
def derD (base : Sy → Nat → Nat → List Int → Prop) (rs : List Ru) (x : Sy) (i j : Nat) (w : List Int) : Prop := ∃ k, genD base rs k x i j w

theorem seqD_mono {S S' : Sy → Nat → Nat → List Int → Prop} (h : ∀ x i j w, S x i j w → S' x i j w) : ∀ {xs : List Sy} {i j : Nat} {w : List Int}, seqD S xs i j w → seqD S' xs i j w
  | [], _, _, _, hs => hs
  | x :: xs, i, j, w, ⟨m, u, v, h1, h2, h3⟩ => ⟨m, u, v, h1, h x i m u h2, seqD_mono h h3⟩
theorem genD_succ {base : Sy → Nat → Nat → List Int → Prop} {rs : List Ru} : ∀ (k : Nat) {x : Sy} {i j : Nat} {w : List Int}, genD base rs k x i j w → genD base rs (k + 1) x i j w
  | 0, x, i, j, w, h => .inl h
  | k + 1, x, i, j, w, h => by
    rcases h with h | ⟨r, hr, hx, hs⟩
    · exact .inl h
    · exact .inr ⟨r, hr, hx, seqD_mono (fun x i j w h => genD_succ k h) hs⟩
theorem genD_le {base : Sy → Nat → Nat → List Int → Prop} {rs : List Ru} {k k' : Nat} (hk : k ≤ k') {x : Sy} {i j : Nat} {w : List Int} (h : genD base rs k x i j w) : genD base rs k' x i j w := by
  induction hk with
  | refl => exact h
  | step _ ih => exact genD_succ _ ih
/-- the trees of a list have a common height -/
theorem seqD_height {base : Sy → Nat → Nat → List Int → Prop} {rs : List Ru} : ∀ {xs : List Sy} {i j : Nat} {w : List Int}, seqD (derD base rs) xs i j w → ∃ k, seqD (genD base rs k) xs i j w
  | [], _, _, _, h => ⟨0, h⟩
  | x :: xs, i, j, w, ⟨m, u, v, h1, ⟨k1, h2⟩, h3⟩ => by
    obtain ⟨k2, h4⟩ := seqD_height h3
    exact ⟨max k1 k2, m, u, v, h1, genD_le (Nat.le_max_left _ _) h2, seqD_mono (fun _ _ _ _ h => genD_le (Nat.le_max_right _ _) h) h4⟩
theorem derD_rule {base : Sy → Nat → Nat → List Int → Prop} {rs : List Ru} {r : Ru} (hr : r ∈ rs) {i j : Nat} {w : List Int} (h : seqD (derD base rs) r.right i j w) : derD base rs ⟨false, r.left⟩ i j w := by
  obtain ⟨k, hk⟩ := seqD_height h
  exact ⟨k + 1, .inr ⟨r, hr, rfl, hk⟩⟩
theorem derD_base {base : Sy → Nat → Nat → List Int → Prop} {rs : List Ru} {x : Sy} {i j : Nat} {w : List Int} (h : base x i j w) : derD base rs x i j w := ⟨0, h⟩
theorem seqD_app {S : Sy → Nat → Nat → List Int → Prop} : ∀ {xs : List Sy} {x : Sy} {i m j : Nat} {u v : List Int}, seqD S xs i m u → S x m j v → seqD S (xs ++ [x]) i j (u ++ v)
  | [], x, i, m, j, u, v, ⟨h1, h2⟩, h => by subst h1; subst h2; exact ⟨j, v, [], by simp, h, rfl, rfl⟩
  | y :: xs, x, i, m, j, u, v, ⟨k, a, b, h1, h2, h3⟩, h => by
    subst h1
    exact ⟨k, a, b ++ v, by simp, h2, seqD_app h3 h⟩
theorem seqD_split {S : Sy → Nat → Nat → List Int → Prop} : ∀ {xs : List Sy} {x : Sy} {i j : Nat} {w : List Int}, seqD S (xs ++ [x]) i j w → ∃ m u v, w = u ++ v ∧ seqD S xs i m u ∧ S x m j v
  | [], x, i, j, w, ⟨m, u, v, h1, h2, h3, h4⟩ => by
    subst h3; subst h4; subst h1
    exact ⟨i, [], u, by simp, ⟨rfl, rfl⟩, h2⟩
  | y :: xs, x, i, j, w, ⟨k, a, b, h1, h2, h3⟩ => by
    obtain ⟨m, u, v, h4, h5, h6⟩ := seqD_split h3
    exact ⟨m, a ++ u, v, by rw [h1, h4, List.append_assoc], ⟨k, a, u, rfl, h2, h5⟩, h6⟩

end Abs
end Go.Proofs.Ytokdeeagghhliaa
