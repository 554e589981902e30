/- Least scripts (plain); what may be told less of a list on its way. -/
import Derived.Test.YtfojedaccfenfabV4
import Derived.Test.YtfojedaccfenfabV0
import Derived.Test.YtfojedaccfenfabU9
import Derived.Test.YtfojedaccfenfabD4
namespace Go.Proofs.Ytfojedaccfenfab
namespace Abs
set_option linter.unusedVariables false
set_option linter.unusedSimpArgs false
set_option maxRecDepth 20000

/-- the script from a (its first symbol the i-th) to b, an edit being open or not -/
def scr : Int → List Int → List Int → Option Ed → List Ed
  | _, [], [], o => o.toList
  | i, _ :: a, [], o => scr (i + 1) a [] (some { o.getD ⟨i, i, []⟩ with t := i + 1 })
  | i, [], y :: b, o => scr i [] b (some { o.getD ⟨i, i, []⟩ with w := (o.getD ⟨i, i, []⟩).w ++ [y] })
  | i, x :: a, y :: b, o => if x = y then o.toList ++ scr (i + 1) a b none else
    if dE (x :: a) (y :: b) = 1 + dE a (y :: b) then scr (i + 1) a (y :: b) (some { o.getD ⟨i, i, []⟩ with t := i + 1 })
    else scr i (x :: a) b (some { o.getD ⟨i, i, []⟩ with w := (o.getD ⟨i, i, []⟩).w ++ [y] })
termination_by i a b o => a.length + b.length

theorem scr_end (i : Int) (o : Option Ed) : scr i [] [] o = o.toList := by rw [scr]
theorem scr_del (i x : Int) (a : List Int) (o : Option Ed) : scr i (x :: a) [] o = scr (i + 1) a [] (some { o.getD ⟨i, i, []⟩ with t := i + 1 }) := by rw [scr]
theorem scr_ins (i y : Int) (b : List Int) (o : Option Ed) : scr i [] (y :: b) o = scr i [] b (some { o.getD ⟨i, i, []⟩ with w := (o.getD ⟨i, i, []⟩).w ++ [y] }) := by rw [scr]
theorem scr_cons (i x y : Int) (a b : List Int) (o : Option Ed) : scr i (x :: a) (y :: b) o = if x = y then o.toList ++ scr (i + 1) a b none else
    if dE (x :: a) (y :: b) = 1 + dE a (y :: b) then scr (i + 1) a (y :: b) (some { o.getD ⟨i, i, []⟩ with t := i + 1 })
    else scr i (x :: a) b (some { o.getD ⟨i, i, []⟩ with w := (o.getD ⟨i, i, []⟩).w ++ [y] }) := by rw [scr]

/-- the same at places of two words -/
def scrAt (a b : List Int) (i j : Nat) (o : Option Ed) : List Ed := scr i (a.drop i) (b.drop j) o
theorem scrAt_end (a b : List Int) {i j : Nat} (hi : a.length ≤ i) (hj : b.length ≤ j) (o : Option Ed) : scrAt a b i j o = o.toList := by
  rw [scrAt, List.drop_eq_nil_of_le hi, List.drop_eq_nil_of_le hj, scr_end]
theorem scrAt_same {a b : List Int} {i j : Nat} (hi : i < a.length) (hj : j < b.length) (h : a[i] = b[j]) (o : Option Ed) : scrAt a b i j o = o.toList ++ scrAt a b (i + 1) (j + 1) none := by
  rw [scrAt, List.drop_eq_getElem_cons hi, List.drop_eq_getElem_cons hj, scr_cons, if_pos h]; rfl
theorem scrAt_del {a b : List Int} {i j : Nat} (hi : i < a.length) (h : b.length ≤ j ∨ ∃ hj : j < b.length, a[i] ≠ b[j] ∧ dG a b i j = 1 + dG a b (i + 1) j) (o : Option Ed) :
    scrAt a b i j o = scrAt a b (i + 1) j (some { o.getD ⟨i, i, []⟩ with t := ((i + 1 : Nat) : Int) }) := by
  rcases h with h | ⟨hj, h1, h2⟩
  · rw [scrAt, List.drop_eq_getElem_cons hi, List.drop_eq_nil_of_le h, scr_del, scrAt, List.drop_eq_nil_of_le h]; rfl
  · unfold dG at h2
    rw [List.drop_eq_getElem_cons hi, List.drop_eq_getElem_cons hj] at h2
    rw [scrAt, List.drop_eq_getElem_cons hi, List.drop_eq_getElem_cons hj, scr_cons, if_neg h1, if_pos h2, scrAt, ← List.drop_eq_getElem_cons hj]; rfl
theorem scrAt_ins {a b : List Int} {i j : Nat} (hj : j < b.length) (h : a.length ≤ i ∨ ∃ hi : i < a.length, a[i] ≠ b[j] ∧ dG a b i j ≠ 1 + dG a b (i + 1) j) (o : Option Ed) :
    scrAt a b i j o = scrAt a b i (j + 1) (some { o.getD ⟨i, i, []⟩ with w := (o.getD ⟨i, i, []⟩).w ++ [b[j]] }) := by
  rcases h with h | ⟨hi, h1, h2⟩
  · rw [scrAt, List.drop_eq_getElem_cons hj, List.drop_eq_nil_of_le h, scr_ins, scrAt, List.drop_eq_nil_of_le h]
  · unfold dG at h2
    rw [List.drop_eq_getElem_cons hi, List.drop_eq_getElem_cons hj] at h2
    rw [scrAt, List.drop_eq_getElem_cons hi, List.drop_eq_getElem_cons hj, scr_cons, if_neg h1, if_neg h2, scrAt, ← List.drop_eq_getElem_cons hi]
theorem dG_end {a b : List Int} {i j : Nat} (hi : i < a.length) (hj : b.length ≤ j) : dG a b i j = 1 + dG a b (i + 1) j := by
  rw [dG, dG, List.drop_eq_nil_of_le hj, dE_nil2, dE_nil2]; simp; omega

/-! ### a list of edits as a frame holds it, its last one on its way -/
def outC (n tN vN : Nat) (E : List Ed) : Option Ed → List D
  | none => cellsF edD E
  | some e => cellsF edD E ++ [.int .i64 e.f, .int .i64 e.t, .ref 1 (n + tN) vN 0 e.w.length]
def newC : Option Ed → List D
  | none => []
  | some e => e.w.map (.int .i64)
def outN (E : List Ed) : Option Ed → Nat
  | none => E.length
  | some _ => E.length + 1

theorem edD_cells (e : Ed) : (edD e).cells.length = 3 := rfl
theorem eds_len (E : List Ed) : (cellsF edD E).length = E.length * 3 := cellsF_len edD edD_cells E
theorem eds_snoc (E : List Ed) (e : Ed) : cellsF edD (E ++ [e]) = cellsF edD E ++ [.int .i64 e.f, .int .i64 e.t, iD e.w] := by rw [cellsF_app, cellsF_one]; rfl
theorem eds_low (n : Nat) (E : List Ed) : ∀ c ∈ cellsF edD E, Low n c := low_cellsF edD (low_edD n) E

theorem wk_intsG {X : Wx} {n t ver : Nat} {l : List Int} (hn : X.n = n) (hb : X.lc[t]? = some ⟨ver, .cells (l.map (.int .i64))⟩) (hg : Src1.old t ∉ X.g) : Wk X (.ref 1 (n + t) ver 0 l.length) (iD l) := by
  subst hn
  refine .frz 1 t ver 0 l.length _ _ hb hg (by simp) (by simp) (fun d hd => ?_) fun i d hd j e he => ?_
  · obtain ⟨x, _, rfl⟩ := List.mem_map.1 hd; rfl
  · have hi : i < l.length := by have := (List.getElem?_eq_some_iff.1 hd).1; simpa using this
    have e1 := nth_of hd
    rw [nth_ints l i hi] at e1
    subst e1
    rcases j with _ | j
    · have e2 : e = .int .i64 l[i] := by simpa [D.cells] using he.symm
      subst e2
      have e3 : nth (l.map (D.int .i64)) (0 + i * 1 + 0) = .int .i64 l[i] := by rw [← nth_ints l i hi]; congr 1; omega
      rw [e3]; exact .low _ (.int ..)
    · simp [D.cells] at he
theorem wkl_eds {X : Wx} (E : List Ed) : WkL X (cellsF edD E) (cellsF edD E) := WkL.low (eds_low _ E)
theorem wkl_freeze {X : Wx} {n tN vN vN' : Nat} {E : List Ed} {e : Ed} (hn : X.n = n) (hb : X.lc[tN]? = some ⟨vN, .cells (newC (some e))⟩) (hg : Src1.old tN ∉ X.g) : WkL X (outC n tN vN E (some e)) (outC n tN vN' (E ++ [e]) none) := by
  show WkL X (cellsF edD E ++ _) (cellsF edD (E ++ [e]))
  rw [eds_snoc]
  exact WkL.app (wkl_eds E) (y_wkl wk_i (y_wkl wk_i (y_wkl (wk_intsG hn hb hg) trivial)))
theorem wkl_snoc {X : Wx} (w : List Int) (x : Int) : WkL X (w.map (.int .i64) ++ [.int .i64 x]) ((w ++ [x]).map (.int .i64)) := by
  have : (w ++ [x]).map (D.int .i64) = w.map (.int .i64) ++ [.int .i64 x] := by simp
  rw [this, ← this]; exact WkL.low (low_iD _ _)
theorem wk_frzW {α : Type} (f : α → D) {X : Wx} {n sz t ver len : Nat} {cs : List D} {l : List α} (hn : X.n = n) (hsz : ∀ x, (f x).cells.length = sz) (hb : X.lc[t]? = some ⟨ver, .cells cs⟩) (hg : Src1.old t ∉ X.g) (hl : len = l.length) (hw : WkL X cs (cellsF f l)) :
    Wk X (.ref sz (n + t) ver 0 len) (.lst (l.map f)) := by
  subst hn; subst hl
  have hlen := hw.len
  have hcl := cellsF_len f hsz l
  refine .frz sz t ver 0 l.length cs _ hb hg (by simp) (by omega) (fun d hd => ?_) fun i d hd j e he => ?_
  · obtain ⟨x, _, rfl⟩ := List.mem_map.1 hd; exact hsz x
  · simp only [List.getElem?_map, Option.map_eq_some_iff] at hd
    obtain ⟨x, hx, rfl⟩ := hd
    have h1 := cellsF_get f hsz l i j x e hx he
    have hlt : i * sz + j < cs.length := by have := (List.getElem?_eq_some_iff.1 h1).1; omega
    rw [Nat.zero_add]
    exact hw.get (i * sz + j) _ e (nth_get hlt) h1
theorem put_1 {L : List D} {k : Nat} (h : L.length = k * 3) (x y z d : D) : (L ++ [x, y, z]).take (k * 3 + 1) ++ [d] ++ (L ++ [x, y, z]).drop (k * 3 + 1 + 1) = L ++ [x, d, z] := by
  rw [← h, List.take_length_add_append, Nat.add_assoc, List.drop_length_add_append]; simp
theorem put_2 {L : List D} {k : Nat} (h : L.length = k * 3) (x y z d : D) : (L ++ [x, y, z]).take (k * 3 + 2) ++ [d] ++ (L ++ [x, y, z]).drop (k * 3 + 2 + 1) = L ++ [x, y, d] := by
  rw [← h, List.take_length_add_append, Nat.add_assoc, List.drop_length_add_append]; simp
theorem nth_2 {L : List D} {k : Nat} (h : L.length = k * 3) (x y z : D) : nth (L ++ [x, y, z]) (k * 3 + 2) = z := by
  unfold nth List.getD
  rw [List.getElem?_append_right (by omega), ← h, Nat.add_sub_cancel_left]; rfl
theorem nth_1 {L : List D} {k : Nat} (h : L.length = k * 3) (x y z : D) : nth (L ++ [x, y, z]) (k * 3 + 1) = y := by
  unfold nth List.getD
  rw [List.getElem?_append_right (by omega), ← h, Nat.add_sub_cancel_left]; rfl

structure Lp where
  i : Nat
  j : Nat
  E : List Ed
  o : Option Ed
  vO : Nat
  vN : Nat

/-- where a script's loop stands -/
structure LpOk (a b : List Int) (p : Lp) : Prop where
  i : p.i ≤ a.length
  j : p.j ≤ b.length
  vO : 1 ≤ p.vO
  vN : 1 ≤ p.vN
  len : outN p.E p.o ≤ p.i + p.j
  nw : ∀ e, p.o = some e → e.t = p.i ∧ 0 ≤ e.f ∧ e.f ≤ p.i ∧ e.w.length ≤ p.j
  all : p.E ++ scrAt a b p.i p.j p.o = scrAt a b 0 0 none

theorem tabG (G : Nat → Nat → Int) {a b : List Int} {i j : Nat} (hi : i ≤ a.length) (hj : j ≤ b.length) : ∃ R : List Int, nth ((matL (a.length + 1) (b.length + 1) G).map iD) i = iD R ∧ R.length = b.length + 1 ∧ nth (R.map (D.int .i64)) j = .int .i64 (G i j) :=
  ⟨_, matL_row (by omega), by simp, by simp [nth, List.getD, Nat.lt_succ_of_le hj]⟩

end Abs
end Go.Proofs.Ytfojedaccfenfab
