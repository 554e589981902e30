/- Rows that are made first and written later: blocks of a frame beyond its slots. -/
import Derived.Test.YtfojedaccfenfabD2
namespace Go.Proofs.Ytfojedaccfenfab
namespace Abs
set_option linter.unusedVariables false
set_option linter.unusedSimpArgs false
set_option maxRecDepth 20000

/-- more blocks, all of them unused -/
theorem le_ghost {n : Nat} {sl : List D} {h : Heap} {lc : List Blk} (k : Nat) : Le (St.mk n sl h lc) (St.mk n sl h (lc ++ List.replicate k blk0)) := by
  have e : mrg n h (lc ++ List.replicate k blk0) = mrg n h lc := by
    funext b
    unfold mrg
    split
    · rfl
    · simp only [List.getD, List.getElem?_append, List.getElem?_replicate]
      split
      · rfl
      · rename_i h2
        rw [List.getElem?_eq_none (by omega)]
        split <;> rfl
  refine ⟨rfl, fun a w M hs => ⟨M, ⟨hs.defers, hs.size, hs.sl, ?_⟩, .refl ..⟩⟩
  show Sim w M (mrg n h (lc ++ List.replicate k blk0))
  rw [e]; exact hs.sim

/-- slots of which less is told -/
def Tops : List D → List D → Prop
  | [], [] => True
  | d :: l, d' :: l' => (d' = .top ∨ d' = d) ∧ Tops l l'
  | _, _ => False
theorem Tops.len : ∀ {l l' : List D}, Tops l l' → l'.length = l.length
  | [], [], _ => rfl
  | d :: l, d' :: l', h => by simp only [List.length_cons, Tops.len h.2]
  | [], _ :: _, h => h.elim
  | _ :: _, [], h => h.elim
theorem Tops.get : ∀ {l l' : List D}, Tops l l' → ∀ (t : Nat) (d d' : D), l[t]? = some d → l'[t]? = some d' → d' = .top ∨ d' = d
  | [], [], _, t, d, d', h, _ => by simp at h
  | a :: l, a' :: l', h, 0, d, d', h1, h2 => by
    simp at h1 h2; subst h1; subst h2; exact h.1
  | a :: l, a' :: l', h, t + 1, d, d', h1, h2 => Tops.get h.2 t d d' (by simpa using h1) (by simpa using h2)
theorem Tops.refl : ∀ l : List D, Tops l l
  | [] => trivial
  | d :: l => ⟨.inr rfl, Tops.refl l⟩
theorem tops_top (d : D) (l l' : List D) : Tops (d :: l) (.top :: l') = Tops l l' := by simp [Tops]
theorem tops_same (d : D) (l l' : List D) : Tops (d :: l) (d :: l') = Tops l l' := by simp [Tops]
theorem tops_nil : Tops [] [] = True := rfl
theorem le_tops {n : Nat} {sl sl' : List D} {h : Heap} {lc : List Blk} (ht : Tops sl sl') : Le (St.mk n sl h lc) (St.mk n sl' h lc) := by
  refine ⟨rfl, fun a w M hs => ⟨M, ⟨hs.defers, hs.size.trans ht.len.symm, fun t d' v hd' hv => ?_, hs.sim⟩, .refl ..⟩⟩
  have hlt : t < sl.length := by rw [← ht.len]; exact (List.getElem?_eq_some_iff.1 hd').1
  rcases ht.get t _ d' (nth_get hlt) hd' with rfl | rfl
  · exact .top _
  · exact hs.sl t _ v (nth_get hlt) hv

/-! ### rows on their way: the slice of rows in block 12, a new row in block 23 -/
def refsI (T n m cols i : Nat) : List D := (List.range m).map fun r => if r < i then .ref 1 (n + (T + r)) 1 0 cols else .nils
def zeroR (cols : Nat) : List D := List.replicate cols (.int .i64 0)
def matB (T n m cols i t : Nat) : Blk := if t = 12 then ⟨1, .cells (refsI T n m cols i)⟩ else if T ≤ t ∧ t < T + i then ⟨1, .cells (zeroR cols)⟩ else blk0
def matI (T n m cols i : Nat) : List Blk := (List.range (T + m)).map (matB T n m cols i)
theorem matI_len (T n m cols i : Nat) : (matI T n m cols i).length = T + m := by simp [matI]
theorem matI_get {T n m cols i t : Nat} (ht : t < T + m) : (matI T n m cols i)[t]? = some (matB T n m cols i t) := by simp [matI, ht]
theorem matI_getD {T n m cols i t : Nat} (ht : t < T + m) : (matI T n m cols i).getD t blk0 = matB T n m cols i t := by simp [List.getD, matI_get ht]
theorem refsI_len (T n m cols i : Nat) : (refsI T n m cols i).length = m := by simp [refsI]
theorem nth_refsI {T n m cols i r : Nat} (hr : r < m) : nth (refsI T n m cols i) r = if r < i then .ref 1 (n + (T + r)) 1 0 cols else .nils := by
  simp [refsI, nth, List.getD, hr]

def matG (T m i : Nat) : List Src1 := (List.range (T + m)).map fun t => if t = 12 then .old 12 else if T ≤ t ∧ t < T + i then .old t else if t = T + i then .old 23 else .hole

/-- what a row's making leaves of the slots -/
def Slk (n m : Nat) : List D → List D → Prop
  | [], [] => True
  | d :: l, d' :: l' => (d' = .top ∨ (d' = d ∧ (Low n d ∨ d = .ref 1 (n + 12) 1 0 m))) ∧ Slk n m l l'
  | _, _ => False
theorem Slk.len {n m : Nat} : ∀ {l l' : List D}, Slk n m l l' → l'.length = l.length
  | [], [], _ => rfl
  | d :: l, d' :: l', h => by simp only [List.length_cons, Slk.len h.2]
  | [], _ :: _, h => h.elim
  | _ :: _, [], h => h.elim
theorem Slk.get {n m : Nat} : ∀ {l l' : List D}, Slk n m l l' → ∀ (t : Nat) (d d' : D), l[t]? = some d → l'[t]? = some d' → d' = .top ∨ (d' = d ∧ (Low n d ∨ d = .ref 1 (n + 12) 1 0 m))
  | [], [], _, t, d, d', h, _ => by simp at h
  | a :: l, a' :: l', h, 0, d, d', h1, h2 => by
    simp at h1 h2; subst h1; subst h2; exact h.1
  | a :: l, a' :: l', h, t + 1, d, d', h1, h2 => Slk.get h.2 t d d' (by simpa using h1) (by simpa using h2)
theorem slk_top (n m : Nat) (d : D) (l l' : List D) : Slk n m (d :: l) (.top :: l') = Slk n m l l' := by simp [Slk]
theorem slk_low {n m : Nat} {d : D} {l l' : List D} (hd : Low n d) (h : Slk n m l l') : Slk n m (d :: l) (d :: l') := ⟨.inr ⟨rfl, .inl hd⟩, h⟩
theorem slk_mat {n m : Nat} {l l' : List D} (h : Slk n m l l') : Slk n m (.ref 1 (n + 12) 1 0 m :: l) (.ref 1 (n + 12) 1 0 m :: l') := ⟨.inr ⟨rfl, .inr rfl⟩, h⟩
theorem slk_nil (n m : Nat) : Slk n m [] [] = True := rfl

theorem le_row {T n m cols i : Nat} {sl sl' : List D} {h : Heap} (hl : LowH n h) (hT : 23 < T) (hi : i < m) (hs : Slk n m sl sl') :
    Le (St.mk n sl h (((matI T n m cols i).set 23 ⟨1, .cells (zeroR cols)⟩).set 12 ⟨1, .cells ((refsI T n m cols i).take i ++ [.ref 1 (n + 23) 1 0 cols] ++ (refsI T n m cols i).drop (i + 1))⟩)) (St.mk n sl' h (matI T n m cols (i + 1))) := by
  obtain ⟨lc, hlc⟩ : ∃ lc, ((matI T n m cols i).set 23 ⟨1, .cells (zeroR cols)⟩).set 12 ⟨1, .cells ((refsI T n m cols i).take i ++ [.ref 1 (n + 23) 1 0 cols] ++ (refsI T n m cols i).drop (i + 1))⟩ = lc := ⟨_, rfl⟩
  rw [hlc]
  have g12 : lc.getD 12 blk0 = ⟨1, .cells ((refsI T n m cols i).take i ++ [.ref 1 (n + 23) 1 0 cols] ++ (refsI T n m cols i).drop (i + 1))⟩ := by
    rw [← hlc]; simp [List.getD, matI_len, show 12 < T + m by omega]
  have g23 : lc.getD 23 blk0 = ⟨1, .cells (zeroR cols)⟩ := by
    rw [← hlc]; simp [List.getD, matI_len, show 23 < T + m by omega]
  have gT : ∀ r, r < i → lc.getD (T + r) blk0 = ⟨1, .cells (zeroR cols)⟩ := fun r hr => by
    rw [← hlc]
    simp only [List.getD, List.getElem?_set_ne (show 12 ≠ T + r by omega), List.getElem?_set_ne (show 23 ≠ T + r by omega), matI_get (show T + r < T + m by omega)]
    simp [matB, show T + r ≠ 12 by omega, show T ≤ T + r ∧ T + r < T + i by omega]
  have gG : ∀ t, t < T + m → (matG T m i)[t]? = some (if t = 12 then .old 12 else if T ≤ t ∧ t < T + i then .old t else if t = T + i then .old 23 else .hole) := fun t ht => by simp [matG, ht]
  have hlenT : ((refsI T n m cols i).take i).length = i := by simp [refsI_len]; omega
  have hX : WxOk ⟨n, lc, matG T m i, matI T n m cols (i + 1)⟩ := by
    refine ⟨by simp [matI_len, matG], fun t x k hx hk => ?_, fun t t' u hx hx' => ?_⟩
    · have ht : t < T + m := by have := (List.getElem?_eq_some_iff.1 hk).1; simpa [matI_len] using this
      rw [gG t ht] at hx
      rw [matI_get ht] at hk
      injection hx with hx; injection hk with hk
      subst hx; subst hk
      by_cases h12 : t = 12
      · subst h12
        simp only [matB, if_true]
        refine ⟨Nat.le_refl _, _, congrArg Blk.con g12, ?_, fun r d' hd' => ?_⟩
        · simp [refsI_len]; omega
        · have hr : r < m := by have := (List.getElem?_eq_some_iff.1 hd').1; simpa [refsI_len] using this
          have e1 := nth_of hd'
          rw [nth_refsI hr] at e1
          rcases Nat.lt_trichotomy r i with h1 | h1 | h1
          · rw [if_pos (by omega)] at e1
            subst e1
            have e2 : nth ((refsI T n m cols i).take i ++ [.ref 1 (n + 23) 1 0 cols] ++ (refsI T n m cols i).drop (i + 1)) r = .ref 1 (n + (T + r)) 1 0 cols := by
              have := nth_refsI (T := T) (n := n) (cols := cols) (i := i) hr
              rw [if_pos h1] at this
              rw [← this]
              unfold nth List.getD
              rw [List.append_assoc, List.getElem?_append_left (by omega), List.getElem?_take, if_pos h1]
            rw [e2]
            refine .ref _ (T + r) (T + r) 1 1 0 cols ?_ (congrArg Blk.ver (gT r h1)) ?_
            · rw [gG _ (by omega), if_neg (by omega), if_pos (by omega)]
            · rw [matI_getD (by omega), matB, if_neg (by omega), if_pos (by omega)]
          · subst h1
            rw [if_pos (by omega)] at e1
            subst e1
            have e2 : nth ((refsI T n m cols r).take r ++ [.ref 1 (n + 23) 1 0 cols] ++ (refsI T n m cols r).drop (r + 1)) r = .ref 1 (n + 23) 1 0 cols := by
              simp [nth, List.getD, List.getElem?_append, hlenT]
            rw [e2]
            refine .ref _ 23 (T + r) 1 1 0 cols ?_ (congrArg Blk.ver g23) ?_
            · rw [gG _ (by omega), if_neg (by omega), if_neg (by omega), if_pos rfl]
            · rw [matI_getD (by omega), matB, if_neg (by omega), if_pos (by omega)]
          · rw [if_neg (by omega)] at e1
            subst e1
            have e2 : nth ((refsI T n m cols i).take i ++ [.ref 1 (n + 23) 1 0 cols] ++ (refsI T n m cols i).drop (i + 1)) r = .nils := by
              have := nth_refsI (T := T) (n := n) (cols := cols) (i := i) hr
              rw [if_neg (by omega)] at this
              rw [← this]
              simp only [nth, List.getD, List.getElem?_append, List.length_append, hlenT, List.length_singleton, show ¬ r < i + 1 by omega, if_false, List.getElem?_drop]
              congr 2; omega
            rw [e2]
            exact .low _ .nils
      · rw [if_neg h12]
        by_cases hb : T ≤ t ∧ t < T + i
        · rw [if_pos hb]
          simp only [matB, if_neg h12, if_pos (show T ≤ t ∧ t < T + (i + 1) by omega)]
          have gt := gT (t - T) (by omega)
          rw [show T + (t - T) = t by omega] at gt
          refine ⟨Nat.le_refl _, _, congrArg Blk.con gt, Nat.le_refl _, fun r d' hd' => ?_⟩
          rw [nth_of hd']
          have := List.mem_of_getElem? hd'
          rw [List.eq_of_mem_replicate this]
          exact .low _ (.int ..)
        · rw [if_neg hb]
          by_cases hti : t = T + i
          · rw [if_pos hti]
            simp only [matB, if_neg h12, if_pos (show T ≤ t ∧ t < T + (i + 1) by omega)]
            refine ⟨Nat.le_refl _, _, congrArg Blk.con g23, Nat.le_refl _, fun r d' hd' => ?_⟩
            rw [nth_of hd']
            have := List.mem_of_getElem? hd'
            rw [List.eq_of_mem_replicate this]
            exact .low _ (.int ..)
          · rw [if_neg hti]
            simp only [matB, if_neg h12, if_neg (show ¬ (T ≤ t ∧ t < T + (i + 1)) by omega)]
            trivial
    · have ht : t < T + m := by have := (List.getElem?_eq_some_iff.1 hx).1; simpa [matG] using this
      have ht' : t' < T + m := by have := (List.getElem?_eq_some_iff.1 hx').1; simpa [matG] using this
      simp only at hx hx'
      rw [gG t ht] at hx
      rw [gG t' ht'] at hx'
      injection hx with hx; injection hx' with hx'
      have key : ∀ t u, (if t = 12 then Src1.old 12 else if T ≤ t ∧ t < T + i then .old t else if t = T + i then .old 23 else .hole) = .old u → (t = 12 ∧ u = 12) ∨ (T ≤ t ∧ t < T + i ∧ u = t) ∨ (t = T + i ∧ u = 23) := fun t u h => by
        split at h
        · injection h with h; exact .inl ⟨by assumption, h.symm⟩
        · split at h
          · rename_i hh; injection h with h; exact .inr (.inl ⟨hh.1, hh.2, h.symm⟩)
          · split at h
            · injection h with h; exact .inr (.inr ⟨by assumption, h.symm⟩)
            · cases h
      have k1 := key t u hx
      have k2 := key t' u hx'
      omega
  refine le_wk (matG T m i) hl hX hs.len fun t d d' hd hd' => ?_
  rcases hs.get t d d' hd hd' with rfl | ⟨rfl, hd2 | rfl⟩
  · exact .top _
  · exact .low _ hd2
  · refine .ref 1 12 12 1 1 0 m ?_ (congrArg Blk.ver g12) ?_
    · rw [gG 12 (by omega), if_pos rfl]
    · rw [matI_getD (by omega), matB, if_pos rfl]

end Abs
end Go.Proofs.Ytfojedaccfenfab
