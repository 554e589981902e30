/- Lists of values in arrays. -/
import Derived.Test.YtfojedaccfenfabD3
namespace Go.Proofs.Ytfojedaccfenfab
namespace Abs
set_option linter.unusedVariables false
set_option linter.unusedSimpArgs false
set_option maxRecDepth 20000

section
variable {α : Type} (f : α → D)
def cellsF (l : List α) : List D := (l.map f).flatMap D.cells
theorem cellsF_nil : cellsF f [] = [] := rfl
theorem cellsF_app (a b : List α) : cellsF f (a ++ b) = cellsF f a ++ cellsF f b := by simp [cellsF]
theorem cellsF_one (x : α) : cellsF f [x] = (f x).cells := by simp [cellsF]
theorem cellsF_len {sz : Nat} (hsz : ∀ x, (f x).cells.length = sz) : ∀ l : List α, (cellsF f l).length = l.length * sz
  | [] => by simp [cellsF]
  | t :: ts => by
    have := cellsF_len hsz ts
    have h3 := hsz t
    simp only [cellsF, List.map_cons, List.flatMap_cons, List.length_append, List.length_cons, Nat.add_mul] at this ⊢
    omega
theorem cellsF_get {sz : Nat} (hsz : ∀ x, (f x).cells.length = sz) : ∀ (l : List α) (i j : Nat) (x : α) (e : D), l[i]? = some x → (f x).cells[j]? = some e → (cellsF f l)[i * sz + j]? = some e
  | [], i, j, x, e, h, _ => by simp at h
  | a :: O, 0, j, x, e, h, he => by
    simp only [List.getElem?_cons_zero, Option.some.injEq] at h
    subst h
    have hj : j < (f a).cells.length := (List.getElem?_eq_some_iff.1 he).1
    simp only [cellsF, List.map_cons, List.flatMap_cons, Nat.zero_mul, Nat.zero_add]
    rw [List.getElem?_append_left hj]; exact he
  | a :: O, i + 1, j, x, e, h, he => by
    have := cellsF_get hsz O i j x e (by simpa using h) he
    have h3 := hsz a
    simp only [cellsF, List.map_cons, List.flatMap_cons] at this ⊢
    rw [List.getElem?_append_right (by rw [Nat.add_mul]; omega), show (i + 1) * sz + j - (f a).cells.length = i * sz + j by rw [Nat.add_mul]; omega]
    exact this
theorem low_cellsF {n : Nat} (hlow : ∀ x, Low n (f x)) (l : List α) : ∀ c ∈ cellsF f l, Low n c := by
  intro c hc
  simp only [cellsF, List.mem_flatMap, List.mem_map] at hc
  obtain ⟨d, ⟨t, ht, rfl⟩, hc⟩ := hc
  exact (hlow t).cells c hc
theorem low_lstF {n : Nat} (hlow : ∀ x, Low n (f x)) (l : List α) : Low n (.lst (l.map f)) := by
  refine .lst _ fun c hc => ?_
  obtain ⟨k, hk, rfl⟩ := List.mem_map.1 hc
  exact hlow k
theorem nth_mapF (l : List α) (i : Nat) (hi : i < l.length) : nth (l.map f) i = f l[i] := by simp [nth, List.getD, hi]

/-- a slice that is held to be data from now on -/
theorem wk_frzF {X : Wx} {sz : Nat} (hsz : ∀ x, (f x).cells.length = sz) (hlow : ∀ x, Low X.n (f x)) {b t ver len : Nat} {l : List α} (e : b = X.n + t) (hb : X.lc[t]? = some ⟨ver, .cells (cellsF f l)⟩) (hg : Src1.old t ∉ X.g) (hl : len = l.length) :
    Wk X (.ref sz b ver 0 len) (.lst (l.map f)) := by
  subst hl; subst e
  refine .frz sz t ver 0 l.length (cellsF f l) _ hb hg (by simp) (by rw [cellsF_len f hsz]; omega) (fun d hd => ?_) fun i d hd j e he => ?_
  · obtain ⟨x, _, rfl⟩ := List.mem_map.1 hd; exact hsz x
  · simp only [List.getElem?_map, Option.map_eq_some_iff] at hd
    obtain ⟨x, hx, rfl⟩ := hd
    have := cellsF_get f hsz l i j x e hx he
    have e1 : nth (cellsF f l) (0 + i * sz + j) = e := by simp [nth, List.getD, this]
    rw [e1]
    exact .low _ ((hlow x).cells e (List.mem_of_getElem? he))

/-- a live slice, read as data -/
theorem fz_F {N : Nat} {H : Heap} {sz : Nat} (hsz : ∀ x, (f x).cells.length = sz) (hlow : ∀ x, Low 0 (f x)) {b ver len : Nat} {l : List α} (hb : b < N) (hH : H b = ⟨ver, .cells (cellsF f l)⟩) (hl : len = l.length) : Wk (FX N H) (.ref sz b ver 0 len) (.lst (l.map f)) :=
  wk_frzF f (X := FX N H) hsz hlow (Nat.zero_add b).symm (by simp [FX, hb, hH]) (by simp [FX]) hl
end

theorem WkL.app {X : Wx} : ∀ {a a' b b' : List D}, WkL X a a' → WkL X b b' → WkL X (a ++ b) (a' ++ b')
  | [], [], b, b', _, h => h
  | [], _ :: _, _, _, h, _ => by simp [WkL] at h
  | _ :: _, [], _, _, h, _ => by simp [WkL] at h
  | d :: a, d' :: a', b, b', h, h2 => by
    cases d' with
    | top => simp only [List.cons_append, y_wkl_top] at h ⊢; exact WkL.app h h2
    | _ => simp only [WkL] at h; exact y_wkl h.1 (WkL.app h.2 h2)

end Abs
end Go.Proofs.Ytfojedaccfenfab
