/- A script performed from the back, and from the front (plain); the range's invariant. -/
import Derived.Test.YtfojedaccfenfabU6
namespace Go.Proofs.Ytfojedaccfenfab
namespace Abs
set_option linter.unusedVariables false
set_option linter.unusedSimpArgs false

/-! ### plain -/
def tailR (w : List Int) : Int → List Ed → List Int
  | p, [] => w.drop p.toNat
  | p, e :: l => (w.drop p.toNat).take (e.f - p).toNat ++ (e.w ++ tailR w e.t l)
def okL (n : Nat) : Int → List Ed → Prop
  | p, [] => 0 ≤ p ∧ p ≤ n
  | p, e :: l => 0 ≤ p ∧ p ≤ e.f ∧ e.f ≤ e.t ∧ e.t ≤ n ∧ okL n e.t l
theorem okL_at {n : Nat} : ∀ {l : List Ed} {p : Int}, okL n p l → 0 ≤ p ∧ p ≤ n
  | [], p, h => h
  | e :: l, p, h => by
    obtain ⟨h1, h2, h3, h4, _⟩ := h
    omega
theorem okUp_drop {n : Nat} {l : List Ed} (h : okUp n l l.length) : ∀ (k j : Nat), j + k = l.length → okL n (atK l j) (l.drop j)
  | 0, j, hj => by
    have := atK_bound (k := j) fun i hi => h i (by omega)
    rw [List.drop_eq_nil_of_le (by omega)]
    exact this
  | k + 1, j, hj => by
    have h0 := atK_bound (k := j) fun i hi => h i (by omega)
    have h1 := h j (by omega)
    have ih := okUp_drop h k (j + 1) (by omega)
    have e1 : atK l (j + 1) = (edAt l j).t := by simp [atK]
    rw [List.drop_eq_getElem_cons (by omega), ← edAt_get (by omega)]
    rw [e1] at ih
    obtain ⟨q1, _, q3, q4⟩ := h1
    exact ⟨h0.1, q1, q3, q4, ih⟩
theorem runB_eq {w : List Int} : ∀ {l : List Ed} {p : Int}, okL w.length p l → runB w l = w.take p.toNat ++ tailR w p l
  | [], p, h => by simp [runB, tailR]
  | e :: l, p, h => by
    obtain ⟨h0, h1, h2, h3, h4⟩ := h
    have ih := runB_eq h4
    have e0 : runB w (e :: l) = applyL (runB w l) e := rfl
    have hL : (w.take e.t.toNat).length = e.t.toNat := by simp; omega
    rw [e0, ih, applyL, tailR]
    have e1 : (w.take e.t.toNat ++ tailR w e.t l).take e.f.toNat = w.take e.f.toNat := by
      rw [List.take_append_of_le_length (by omega), List.take_take]
      congr 1; omega
    have e2 : (w.take e.t.toNat ++ tailR w e.t l).drop e.t.toNat = tailR w e.t l := by
      rw [List.drop_append, hL, Nat.sub_self, List.drop_eq_nil_of_le (by omega)]; simp
    have e3 : w.take e.f.toNat = w.take p.toNat ++ (w.drop p.toNat).take (e.f - p).toNat := by
      rw [← List.take_add]; congr 1; omega
    rw [e1, e2, e3, List.append_assoc]
theorem applyL_len (w : List Int) (e : Ed) (h : e.f ≤ e.t) : (applyL w e).length ≤ w.length + e.w.length := by
  simp only [applyL, List.length_append, List.length_take, List.length_drop]; omega
theorem runB_len {w : List Int} : ∀ {l : List Ed}, (∀ e ∈ l, e.f ≤ e.t) → (runB w l).length ≤ w.length + newK l
  | [], _ => by simp [runB, newK]
  | e :: l, h => by
    have ih := runB_len (w := w) (l := l) fun e he => h e (by simp [he])
    have h1 := applyL_len (runB w l) e (h e (by simp))
    have e0 : runB w (e :: l) = applyL (runB w l) e := rfl
    have e1 : newK (e :: l) = e.w.length + newK l := by simp [newK]
    rw [e0, e1]; omega
theorem newK_drop (l : List Ed) (j : Nat) : newK (l.drop j) ≤ newK l := by
  have h0 : newK l = newK (l.take j ++ l.drop j) := by rw [List.take_append_drop]
  have : newK (l.take j ++ l.drop j) = newK (l.take j) + newK (l.drop j) := by simp only [newK, List.map_append, List.sum_append]
  omega
theorem okUp_ft {n : Nat} {l : List Ed} (h : okUp n l l.length) : ∀ e ∈ l, e.f ≤ e.t := fun e he => by
  obtain ⟨i, hi, rfl⟩ := List.mem_iff_getElem.1 he
  have := h i hi
  rw [← edAt_get hi]; exact this.2.2.1

def accK (w : List Int) (l : List Ed) (k : Nat) : List Int := runB w (l.drop (l.length - k))
theorem accK_zero (w : List Int) (l : List Ed) : accK w l 0 = w := by simp [accK, runB]
theorem accK_all (w : List Int) (l : List Ed) : accK w l l.length = runB w l := by simp [accK]
theorem accK_succ (w : List Int) {l : List Ed} {k : Nat} (hk : k < l.length) : accK w l (k + 1) = applyL (accK w l k) (edAt l (l.length - 1 - k)) := by
  have e : l.length - k = l.length - 1 - k + 1 := by omega
  have e2 : l.length - (k + 1) = l.length - 1 - k := by omega
  rw [accK, accK, e2, e, List.drop_eq_getElem_cons (show l.length - 1 - k < l.length by omega), edAt_get (by omega)]
  rfl
theorem accK_ok {w : List Int} {l : List Ed} (h : okUp w.length l l.length) {k : Nat} (hk : k < l.length) : okE (accK w l k).length (edAt l (l.length - 1 - k)) := by
  have h1 := h (l.length - 1 - k) (by omega)
  have h2 := atK_bound (k := l.length - 1 - k) fun i hi => h i (by omega)
  have h3 := okUp_drop h k (l.length - k) (by omega)
  have e : atK l (l.length - k) = (edAt l (l.length - 1 - k)).t := by
    rw [atK, if_neg (by omega)]; congr 2; omega
  rw [e] at h3
  have h4 := runB_eq h3
  obtain ⟨q1, _, q3, q4⟩ := h1
  refine ⟨by omega, q3, ?_⟩
  rw [accK, h4, List.length_append, List.length_take]
  omega
theorem accK_len {w : List Int} {l : List Ed} (h : okUp w.length l l.length) (k : Nat) : (accK w l k).length ≤ w.length + newK l := by
  have h1 := runB_len (w := w) (l := l.drop (l.length - k)) fun e he => okUp_ft h e (List.mem_of_mem_drop he)
  have h2 := newK_drop l (l.length - k)
  rw [accK]; omega

/-! ### the invariant -/
theorem free_iD (l : List Int) : Free (iD l) := by
  refine .lst _ fun c hc => ?_
  obtain ⟨x, _, rfl⟩ := List.mem_map.1 hc
  exact .int ..
theorem free_edD (e : Ed) : Free (edD e) := by
  refine .agg _ fun c hc => ?_
  simp only [List.mem_cons, List.not_mem_nil, or_false] at hc
  rcases hc with rfl | rfl | rfl
  · exact .int ..
  · exact .int ..
  · exact free_iD _

/-- the edits, as they lie where the range begins -/
structure Lies (w2 : World) (M2 : Ctx) (l : List Ed) (Bs bo : Nat) (ad : Option Addr) (cap : Nat) (c0 c1 c2 : Nat → Value) : Prop where
  size : Bs < w2.heap.size
  free : ¬ Occ M2 Bs
  cell : w2.cell? ⟨Bs, bo, none⟩ = some (.slice ad l.length cap)
  els : l.length = 0 ∨ ∃ b off, ad = some ⟨b, off, none⟩ ∧ b < w2.heap.size ∧ ¬ Occ M2 b ∧ ∀ j, j < l.length → w2.cell? ⟨b, off + j * 3, none⟩ = some (c0 j) ∧ w2.cell? ⟨b, off + j * 3 + 1, none⟩ = some (c1 j) ∧ w2.cell? ⟨b, off + j * 3 + 2, none⟩ = some (c2 j)
  rep : ∀ j, j < l.length → Rep w2 M2 (edD (edAt l j)) (.agg #[c0 j, c1 j, c2 j])

/-- the box of the word, as it lies where the range begins -/
structure Box (w2 : World) (M2 : Ctx) (n ver cb bb sz : Nat) (w : List Int) : Prop where
  mutes : Mutes (n + 69) w2 M2
  ver : (M2 (n + 10)).ver = ver
  loc : (M2 (n + 10)).loc = some (.mem cb bb)
  cell : ∃ C e v, w2.heap[cb]? = some (.cells C e (0, 0)) ∧ C.size = sz ∧ C[bb]? = some v ∧ Rep w2 M2 (iD w) v

structure RI (w2 : World) (M2 : Ctx) (cb bb sz : Nat) (w : List Int) (l : List Ed) (k : Nat) (W : World) : Prop where
  size : w2.heap.size ≤ W.heap.size
  same : Same w2 W
  keep : ∀ c, c < w2.heap.size → c ≠ cb → W.heap[c]? = w2.heap[c]?
  cell : ∃ C e v, W.heap[cb]? = some (.cells C e (0, 0)) ∧ C.size = sz ∧ C[bb]? = some v ∧ Rep W M2 (iD (accK w l k)) v

structure RA (w2 : World) (M2 : Ctx) (cb bb sz : Nat) (w : List Int) (l : List Ed) (k : Nat) (a : Act) (W : World) : Prop where
  inv : RI w2 M2 cb bb sz w l k W
  defers : a.defers = []
  tmps : a.tmps.size = 69
  box : a.tmps.getD 10 undef = .pointer (some ⟨cb, bb, none⟩)
  el : ∃ (c1 b1 : Nat) (C1 : Array Value) (e1 : TypeId) (C : Array Value) (e : TypeId) (v : Value) (M' : Ctx), a.tmps.getD 12 undef = .pointer (some ⟨c1, b1, none⟩) ∧ w2.heap.size ≤ c1 ∧ W.heap[c1]? = some (.cells C1 e1 (0, 0)) ∧ b1 + 3 ≤ C1.size ∧
    (∀ j d, (edD (edAt l (l.length - 1 - k))).cells[j]? = some d → ∃ v, C1[b1 + j]? = some v ∧ Rep W M' d v) ∧
    (W.heap[cb]? = some (.cells C e (0, 0)) ∧ C.size = sz ∧ C[bb]? = some v ∧ Rep W M' (iD (accK w l k)) v) ∧ (∀ c, Occ M2 c → Occ M' c) ∧ Occ M' c1

variable {w2 : World} {M2 : Ctx} {n ver cb bb sz : Nat} {w : List Int} {l : List Ed} {k : Nat} {W W' : World} {a : Act}

theorem Rep.turns {M : Ctx} {B : Nat} (ht : Turns B W W') {d : D} {v : Value} (h : Rep W M d v) (hf : Free d) : Rep W' M d v :=
  h.keep ht.size (fun c _ C e fr hc => ht.keep c _ hc (.inr rfl)) hf

theorem Box.size (hB : Box w2 M2 n ver cb bb sz w) : cb < w2.heap.size := hB.mutes.known _ _ _ hB.loc
theorem Box.occ (hB : Box w2 M2 n ver cb bb sz w) : Occ M2 cb := ⟨_, _, hB.loc⟩

theorem RI.turns (h : RI w2 M2 cb bb sz w l k W) (ht : Turns w2.heap.size W W') : RI w2 M2 cb bb sz w l k W' := by
  obtain ⟨h1, h2, h3, C, e, v, h4, h5, h6, h7⟩ := h
  refine ⟨Nat.le_trans h1 ht.size, h2.trans ht.same, fun c hc hne => ?_, C, e, v, ht.keep _ _ h4 (.inr rfl), h5, h6, h7.turns ht (free_iD _)⟩
  have hlt : c < W.heap.size := by omega
  rw [← h3 c hc hne, ht.keep c W.heap[c] (by simp [hlt]) (.inl hc)]
  simp [hlt]
theorem RA.turns (h : RA w2 M2 cb bb sz w l k a W) (ht : Turns w2.heap.size W W') : RA w2 M2 cb bb sz w l k a W' := by
  obtain ⟨h1, h2, h3, h4, c1, b1, C1, e1, C, e, v, M', q1, q2, q3, q4, q5, ⟨q6, q7, q8, q9⟩, q10, q11⟩ := h
  refine ⟨h1.turns ht, h2, h3, h4, c1, b1, C1, e1, C, e, v, M', q1, q2, ht.keep _ _ q3 (.inr rfl), q4, fun j d hd => ?_, ⟨ht.keep _ _ q6 (.inr rfl), q7, q8, q9.turns ht (free_iD _)⟩, q10, q11⟩
  obtain ⟨u, hu, hr⟩ := q5 j d hd
  exact ⟨u, hu, hr.turns ht ((free_edD _).cells d (List.mem_of_getElem? hd))⟩
theorem RI.eds (h : RI w2 M2 cb bb sz w l k W) (hB : Box w2 M2 n ver cb bb sz w) {Bs bo : Nat} {ad : Option Addr} {cap : Nat} {c0 c1 c2 : Nat → Value} (hL : Lies w2 M2 l Bs bo ad cap c0 c1 c2) : EdCells W Bs bo ad l.length cap c0 c1 c2 := by
  have key : ∀ c : Addr, c.block < w2.heap.size → ¬ Occ M2 c.block → W.cell? c = w2.cell? c := fun c hc ho => cell_imm (h.keep _ hc fun e => ho (e ▸ hB.occ))
  refine ⟨(key ⟨Bs, bo, none⟩ hL.size hL.free).trans hL.cell, hL.els.imp id fun ⟨b, off, q1, q2, q3, q4⟩ => ⟨b, off, q1, fun j hj => ?_⟩⟩
  obtain ⟨r1, r2, r3⟩ := q4 j hj
  exact ⟨(key ⟨b, _, none⟩ q2 q3).trans r1, (key ⟨b, _, none⟩ q2 q3).trans r2, (key ⟨b, _, none⟩ q2 q3).trans r3⟩
theorem RI.rep (h : RI w2 M2 cb bb sz w l k W) (hB : Box w2 M2 n ver cb bb sz w) {d : D} {v : Value} (hr : Rep w2 M2 d v) (hf : Free d) : Rep W M2 d v :=
  hr.keep h.size (fun c ho C e fr hc => by rw [h.keep c (Array.getElem?_eq_some_iff.1 hc).1 fun e => ho (e ▸ hB.occ)]; exact hc) hf
theorem Box.start (hB : Box w2 M2 n ver cb bb sz w) : RI w2 M2 cb bb sz w l 0 w2 := by
  refine ⟨Nat.le_refl _, .refl _, fun _ _ _ => rfl, ?_⟩
  rw [accK_zero]; exact hB.cell

end Abs
end Go.Proofs.Ytfojedaccfenfab
