/- A map of maps: the inner ones in blocks beyond a frame's slots. -/
import Derived.Test.YtbdcklchcdkhbaaQ11
namespace Go.Proofs.Ytbdcklchcdkhbaa
namespace Abs
set_option linter.unusedVariables false
set_option linter.unusedSimpArgs false
set_option maxRecDepth 20000

theorem getD_set_ne {L : List Blk} {a b : Nat} {x : Blk} (h : ¬ a = b) : (L.set a x).getD b blk0 = L.getD b blk0 := by
  simp [List.getD, List.getElem?_set_ne h]
theorem getD_set_eq {L : List Blk} {a : Nat} {x : Blk} (h : a < L.length) : (L.set a x).getD a blk0 = x := by
  simp [List.getD, h]

theorem mget_no {es : List (List Int × D)} {k : List Int} (h : ∀ e ∈ es, e.1 ≠ k) : mget es k = none := by
  unfold mget
  rw [List.find?_eq_none.2 fun e he => by simpa using h e he]; rfl
theorem mget_at : ∀ {es : List (List Int × D)} {k : List Int} {d : D} {j : Nat}, es[j]? = some (k, d) → (∀ i e, i < j → es[i]? = some e → e.1 ≠ k) → mget es k = some d
  | [], k, d, j, h, _ => by simp at h
  | e :: es, k, d, 0, h, _ => by
    simp at h; subst h; simp [mget]
  | e :: es, k, d, j + 1, h, hu => by
    have h1 := hu 0 e (by omega) rfl
    have h2 : (e.1 == k) = false := by simpa using h1
    have := mget_at (es := es) (k := k) (d := d) (j := j) (by simpa using h) fun i e' hi he => hu (i + 1) e' (by omega) (by simpa using he)
    unfold mget at this ⊢
    rw [List.find?_cons, h2]; exact this
theorem mput_no : ∀ {es : List (List Int × D)} {k : List Int} {v : D}, (∀ e ∈ es, e.1 ≠ k) → mput es k v = es ++ [(k, v)]
  | [], k, v, _ => rfl
  | e :: es, k, v, h => by
    have h1 : (e.1 == k) = false := by simpa using h e (by simp)
    rw [mput, h1, if_neg (by simp), mput_no fun e' he => h e' (by simp [he])]; rfl

/-- the keys with their rules -/
abbrev Ks := List ((Int × Int) × List Int)
def inE (rs : List Int) : List (List Int × D) := rs.map fun r => ([r], .bool true)
theorem mget_inE (rs : List Int) (r : Int) : mget (inE rs) [r] = if r ∈ rs then some (.bool true) else none := by
  induction rs with
  | nil => rfl
  | cons x rs ih =>
    unfold mget inE at *
    rw [List.map_cons, List.find?_cons]
    by_cases h : x = r
    · subst h; simp
    · have h1 : (([x] : List Int) == [r]) = false := by simp [h]
      have h2 : ¬ r = x := fun e => h e.symm
      simp only [h1, ih, List.mem_cons, h2, false_or]
theorem mput_inE {rs : List Int} {r : Int} (h : r ∉ rs) : mput (inE rs) [r] (.bool true) = inE (rs ++ [r]) := by
  rw [mput_no]
  · simp [inE]
  · intro e he
    simp only [inE, List.mem_map] at he
    obtain ⟨x, hx, rfl⟩ := he
    intro hh
    simp only [List.cons.injEq, and_true] at hh
    exact h (hh ▸ hx)
theorem klen_inE (rs : List Int) : klen 1 (inE rs) = true := by simp [klen, inE]

def kyE (e : (Int × Int) × List Int) : List Int := [e.1.1, e.1.2]
/-- the outer map's entries, the inner maps' blocks by src -/
def outE (n : Nat) (src : Nat → Nat) : Nat → Ks → List (List Int × D)
  | _, [] => []
  | j, e :: ks => (kyE e, .map (n + src j) 1) :: outE n src (j + 1) ks
theorem outE_len (n : Nat) (src : Nat → Nat) : ∀ (ks : Ks) (j : Nat), (outE n src j ks).length = ks.length
  | [], j => rfl
  | e :: ks, j => by rw [outE, List.length_cons, outE_len n src ks (j + 1), List.length_cons]
theorem outE_get (n : Nat) (src : Nat → Nat) : ∀ (ks : Ks) (j i : Nat) (e : (Int × Int) × List Int), ks[i]? = some e → (outE n src j ks)[i]? = some (kyE e, .map (n + src (j + i)) 1)
  | [], j, i, e, h => by simp at h
  | a :: ks, j, 0, e, h => by simp at h; subst h; rfl
  | a :: ks, j, i + 1, e, h => by
    rw [outE, List.getElem?_cons_succ, outE_get n src ks (j + 1) i e (by simpa using h), show j + 1 + i = j + (i + 1) by omega]
theorem outE_keys (n : Nat) (src : Nat → Nat) : ∀ (ks : Ks) (j : Nat), (outE n src j ks).map (·.1) = ks.map kyE
  | [], j => rfl
  | e :: ks, j => by rw [outE, List.map_cons, List.map_cons, outE_keys n src ks (j + 1)]
theorem outE_snoc (n : Nat) (src : Nat → Nat) (x : (Int × Int) × List Int) : ∀ (ks : Ks) (j : Nat), outE n src j (ks ++ [x]) = outE n src j ks ++ [(kyE x, .map (n + src (j + ks.length)) 1)]
  | [], j => rfl
  | e :: ks, j => by
    rw [List.cons_append, outE, outE, outE_snoc n src x ks (j + 1), List.length_cons, show j + 1 + ks.length = j + (ks.length + 1) by omega]; rfl
theorem outE_congr (n : Nat) (src src' : Nat → Nat) : ∀ (ks : Ks) (j : Nat), (∀ i, i < ks.length → src (j + i) = src' (j + i)) → outE n src j ks = outE n src' j ks
  | [], j, _ => rfl
  | e :: ks, j, h => by
    have h0 := h 0 (by simp)
    rw [Nat.add_zero] at h0
    rw [outE, outE, h0, outE_congr n src src' ks (j + 1) fun i hi => by have := h (i + 1) (by simpa using hi); rwa [show j + (i + 1) = j + 1 + i by omega] at this]
theorem outE_upd (n : Nat) (src : Nat → Nat) (rs : List Int) : ∀ (ks : Ks) (j i : Nat) (e : (Int × Int) × List Int), ks[i]? = some e → outE n src j (ks.set i (e.1, rs)) = outE n src j ks
  | [], j, i, e, h => by simp at h
  | a :: ks, j, 0, e, h => by simp at h; subst h; rfl
  | a :: ks, j, i + 1, e, h => by
    rw [List.set_cons_succ, outE, outE, outE_upd n src rs ks (j + 1) i e (by simpa using h)]
theorem klen_outE (n : Nat) (src : Nat → Nat) (ks : Ks) (j : Nat) : klen 2 (outE n src j ks) = true := by
  have h := outE_keys n src ks j
  unfold klen
  rw [List.all_eq_true]
  intro e he
  have : e.1 ∈ ks.map kyE := by rw [← h]; exact List.mem_map.2 ⟨e, he, rfl⟩
  obtain ⟨x, _, hx⟩ := List.mem_map.1 this
  rw [← hx]; rfl
def Dist (ks : Ks) : Prop := ∀ (i j : Nat) (a b : (Int × Int) × List Int), ks[i]? = some a → ks[j]? = some b → a.1 = b.1 → i = j
theorem kyE_inj {a b : (Int × Int) × List Int} (h : kyE a = kyE b) : a.1 = b.1 := by
  simp only [kyE, List.cons.injEq, and_true] at h
  exact Prod.ext h.1 h.2
theorem mget_outE {n : Nat} {src : Nat → Nat} {ks : Ks} (hd : Dist ks) {i : Nat} {e : (Int × Int) × List Int} (h : ks[i]? = some e) : mget (outE n src 0 ks) (kyE e) = some (.map (n + src i) 1) := by
  refine mget_at (j := i) (by rw [outE_get n src ks 0 i e h, Nat.zero_add]) fun k x hk hx => ?_
  have hlt : k < ks.length := by have := (List.getElem?_eq_some_iff.1 hx).1; rwa [outE_len] at this
  have h2 := outE_get n src ks 0 k _ (List.getElem?_eq_getElem hlt)
  rw [h2] at hx
  injection hx with hx
  subst hx
  intro hh
  have := hd k i _ _ (List.getElem?_eq_getElem hlt) h (kyE_inj hh)
  omega
theorem outE_no {n : Nat} {src : Nat → Nat} {ks : Ks} {j : Nat} {a b : Int} (h : ∀ e ∈ ks, e.1 ≠ (a, b)) : ∀ e ∈ outE n src j ks, e.1 ≠ [a, b] := by
  intro e he
  have : e.1 ∈ ks.map kyE := by rw [← outE_keys n src ks j]; exact List.mem_map.2 ⟨e, he, rfl⟩
  obtain ⟨x, hx, hxk⟩ := List.mem_map.1 this
  rw [← hxk]
  intro hh
  simp only [kyE, List.cons.injEq, and_true] at hh
  exact h x hx (Prod.ext hh.1 hh.2)

/-! ### the blocks of the check -/
def ghostT : Nat := 90
def chkB (n : Nat) (g : Gr) (s : Sys) (ks : Ks) (t : Nat) : Blk :=
  if t = 2 then ⟨1, .cells (gramC g)⟩ else if t = 3 then ⟨1, .cells (sysC s)⟩ else if t = 29 then ⟨1, .map (outE n (fun j => 90 + j) 0 ks)⟩
  else if 90 ≤ t then ⟨1, .map (inE (ks.getD (t - 90) ((0, 0), [])).2)⟩ else blk0
def chkL (n : Nat) (g : Gr) (s : Sys) (ks : Ks) : List Blk := (List.range (90 + ks.length)).map (chkB n g s ks)
theorem chkL_len (n : Nat) (g : Gr) (s : Sys) (ks : Ks) : (chkL n g s ks).length = 90 + ks.length := by simp [chkL]
theorem chkL_get {n : Nat} {g : Gr} {s : Sys} {ks : Ks} {t : Nat} (ht : t < 90 + ks.length) : (chkL n g s ks)[t]? = some (chkB n g s ks t) := by simp [chkL, ht]
theorem chkL_getD {n : Nat} {g : Gr} {s : Sys} {ks : Ks} {t : Nat} (ht : t < 90 + ks.length) : (chkL n g s ks).getD t blk0 = chkB n g s ks t := by simp [List.getD, chkL_get ht]

def chkG (src : Nat → Nat) (m : Nat) : List Src1 := (List.range (90 + m)).map fun t => if t = 2 then .old 2 else if t = 3 then .old 3 else if t = 29 then .old 29 else if 90 ≤ t then .old (src (t - 90)) else .hole

/-- what is left of the slots -/
def Slc (n : Nat) : List D → List D → Prop
  | [], [] => True
  | d :: l, d' :: l' => (d' = .top ∨ (d' = d ∧ (Low n d ∨ d = .ptr (n + 2) 1 0 ∨ d = .ptr (n + 3) 1 0 ∨ d = .map (n + 29) 1))) ∧ Slc n l l'
  | _, _ => False
theorem Slc.len {n : Nat} : ∀ {l l' : List D}, Slc n l l' → l'.length = l.length
  | [], [], _ => rfl
  | d :: l, d' :: l', h => by simp only [List.length_cons, Slc.len h.2]
  | [], _ :: _, h => h.elim
  | _ :: _, [], h => h.elim
theorem Slc.get {n : Nat} : ∀ {l l' : List D}, Slc n l l' → ∀ (t : Nat) (d d' : D), l[t]? = some d → l'[t]? = some d' → d' = .top ∨ (d' = d ∧ (Low n d ∨ d = .ptr (n + 2) 1 0 ∨ d = .ptr (n + 3) 1 0 ∨ d = .map (n + 29) 1))
  | [], [], _, t, d, d', h, _ => by simp at h
  | a :: l, a' :: l', h, 0, d, d', h1, h2 => by
    simp at h1 h2; subst h1; subst h2; exact h.1
  | a :: l, a' :: l', h, t + 1, d, d', h1, h2 => Slc.get h.2 t d d' (by simpa using h1) (by simpa using h2)
theorem slc_top (n : Nat) (d : D) (l l' : List D) : Slc n (d :: l) (.top :: l') = Slc n l l' := by simp [Slc]
theorem slc_low {n : Nat} {d : D} {l l' : List D} (hd : Low n d) (h : Slc n l l') : Slc n (d :: l) (d :: l') := ⟨.inr ⟨rfl, .inl hd⟩, h⟩
theorem slc_2 {n : Nat} {l l' : List D} (h : Slc n l l') : Slc n (.ptr (n + 2) 1 0 :: l) (.ptr (n + 2) 1 0 :: l') := ⟨.inr ⟨rfl, .inr (.inl rfl)⟩, h⟩
theorem slc_3 {n : Nat} {l l' : List D} (h : Slc n l l') : Slc n (.ptr (n + 3) 1 0 :: l) (.ptr (n + 3) 1 0 :: l') := ⟨.inr ⟨rfl, .inr (.inr (.inl rfl))⟩, h⟩
theorem slc_m {n : Nat} {l l' : List D} (h : Slc n l l') : Slc n (.map (n + 29) 1 :: l) (.map (n + 29) 1 :: l') := ⟨.inr ⟨rfl, .inr (.inr (.inr rfl))⟩, h⟩

theorem low_gramC (n : Nat) (g : Gr) : ∀ c ∈ gramC g, Low n c := low_agg.1 (low_gramD n g)
theorem low_sysC (n : Nat) (s : Sys) : ∀ c ∈ sysC s, Low n c := low_agg.1 (low_sysD n s)

theorem le_chk {n : Nat} {sl sl' : List D} {h : Heap} {lc : List Blk} {g : Gr} {s : Sys} {ks : Ks} (src : Nat → Nat) (hl : LowH n h) (hs : Slc n sl sl')
    (g2 : lc.getD 2 blk0 = ⟨1, .cells (gramC g)⟩) (g3 : lc.getD 3 blk0 = ⟨1, .cells (sysC s)⟩) (g29 : lc.getD 29 blk0 = ⟨1, .map (outE n src 0 ks)⟩)
    (gi : ∀ j e, ks[j]? = some e → lc.getD (src j) blk0 = ⟨1, .map (inE e.2)⟩)
    (hinj : ∀ i j, i < ks.length → j < ks.length → src i = src j → i = j) (hne : ∀ j, j < ks.length → src j ≠ 2 ∧ src j ≠ 3 ∧ src j ≠ 29) :
    Le (St.mk n sl h lc) (St.mk n sl' h (chkL n g s ks)) := by
  have gG : ∀ t, t < 90 + ks.length → (chkG src ks.length)[t]? = some (if t = 2 then .old 2 else if t = 3 then .old 3 else if t = 29 then .old 29 else if 90 ≤ t then .old (src (t - 90)) else .hole) := fun t ht => by simp [chkG, ht]
  have hX : WxOk ⟨n, lc, chkG src ks.length, chkL n g s ks⟩ := by
    refine ⟨by simp [chkL, chkG], fun t x k hx hk => ?_, fun t t' u hx hx' => ?_⟩
    · have ht : t < 90 + ks.length := by have := (List.getElem?_eq_some_iff.1 hk).1; rwa [chkL_len] at this
      rw [gG t ht] at hx
      rw [chkL_get ht] at hk
      injection hx with hx; injection hk with hk
      subst hx; subst hk
      by_cases h2 : t = 2
      · subst h2
        exact ⟨Nat.le_refl _, _, congrArg Blk.con g2, Nat.le_refl _, fun j d' hd' => by rw [nth_of hd']; exact .low _ (low_gramC n g _ (List.mem_of_getElem? hd'))⟩
      by_cases h3 : t = 3
      · subst h3
        exact ⟨Nat.le_refl _, _, congrArg Blk.con g3, Nat.le_refl _, fun j d' hd' => by rw [nth_of hd']; exact .low _ (low_sysC n s _ (List.mem_of_getElem? hd'))⟩
      by_cases h29 : t = 29
      · subst h29
        refine ⟨Nat.le_refl _, _, congrArg Blk.con g29, by rw [outE_len, outE_len], fun i e e' he he' => ?_⟩
        have hi : i < ks.length := by have := (List.getElem?_eq_some_iff.1 he).1; rwa [outE_len] at this
        rw [outE_get n src ks 0 i _ (List.getElem?_eq_getElem hi)] at he
        rw [outE_get n _ ks 0 i _ (List.getElem?_eq_getElem hi)] at he'
        injection he with he; injection he' with he'
        subst he; subst he'
        refine ⟨rfl, ?_⟩
        simp only [Nat.zero_add]
        refine .map _ _ _ _ ?_ (congrArg Blk.ver (gi i _ (List.getElem?_eq_getElem hi))) ?_
        · rw [gG _ (by omega), if_neg (by omega), if_neg (by omega), if_neg (by omega), if_pos (by omega), show 90 + i - 90 = i by omega]
        · rw [chkL_getD (by omega), chkB, if_neg (by omega), if_neg (by omega), if_neg (by omega), if_pos (by omega)]
      simp only [chkB, if_neg h2, if_neg h3, if_neg h29]
      by_cases h90 : 90 ≤ t
      · rw [if_pos h90, if_pos h90]
        have hj : t - 90 < ks.length := by omega
        have e1 : ks.getD (t - 90) ((0, 0), []) = ks[t - 90] := by simp [List.getD, hj]
        rw [e1]
        refine ⟨Nat.le_refl _, _, congrArg Blk.con (gi (t - 90) _ (List.getElem?_eq_getElem hj)), rfl, fun i e e' he he' => ?_⟩
        rw [he] at he'
        injection he' with he'
        subst he'
        have := List.mem_of_getElem? he
        simp only [inE, List.mem_map] at this
        obtain ⟨r, _, rfl⟩ := this
        exact ⟨rfl, .low _ (.bool _)⟩
      · rw [if_neg h90, if_neg h90]; trivial
    · have key : ∀ t, (chkG src ks.length)[t]? = some (.old u) → (t = 2 ∧ u = 2) ∨ (t = 3 ∧ u = 3) ∨ (t = 29 ∧ u = 29) ∨ ∃ j, t = 90 + j ∧ j < ks.length ∧ u = src j := fun t hx => by
        have ht : t < 90 + ks.length := by have := (List.getElem?_eq_some_iff.1 hx).1; simpa [chkG] using this
        rw [gG t ht] at hx
        injection hx with hx
        by_cases h2 : t = 2
        · rw [if_pos h2] at hx; injection hx with hx; exact .inl ⟨h2, hx.symm⟩
        rw [if_neg h2] at hx
        by_cases h3 : t = 3
        · rw [if_pos h3] at hx; injection hx with hx; exact .inr (.inl ⟨h3, hx.symm⟩)
        rw [if_neg h3] at hx
        by_cases h29 : t = 29
        · rw [if_pos h29] at hx; injection hx with hx; exact .inr (.inr (.inl ⟨h29, hx.symm⟩))
        rw [if_neg h29] at hx
        by_cases h90 : 90 ≤ t
        · rw [if_pos h90] at hx; injection hx with hx; exact .inr (.inr (.inr ⟨t - 90, by omega, by omega, hx.symm⟩))
        · rw [if_neg h90] at hx; cases hx
      rcases key t hx with h | h | h | ⟨j, h1, h2, h3⟩ <;> rcases key t' hx' with h' | h' | h' | ⟨j', h1', h2', h3'⟩
      all_goals (try have := hne j h2)
      all_goals (try have := hne j' h2')
      all_goals (try omega)
      have := hinj j j' h2 h2' (h3.symm.trans h3')
      omega
  refine le_wk _ hl hX hs.len fun t d d' hd hd' => ?_
  rcases hs.get t d d' hd hd' with rfl | ⟨rfl, h1 | rfl | rfl | rfl⟩
  · exact .top _
  · exact .low _ h1
  · exact wk_ptr (by rw [gG _ (by omega)]; rfl) rfl (congrArg Blk.ver g2) (by rw [chkL_getD (by omega)]; rfl)
  · exact wk_ptr (by rw [gG _ (by omega)]; rfl) rfl (congrArg Blk.ver g3) (by rw [chkL_getD (by omega)]; rfl)
  · exact .map _ _ _ _ (by rw [gG _ (by omega)]; rfl) (congrArg Blk.ver g29) (by rw [chkL_getD (by omega)]; rfl)

end Abs
end Go.Proofs.Ytbdcklchcdkhbaa
