/- The statement 'for _, e := range slices.Backward(l)', its body a code that keeps whatever lies beyond. -/
import Derived.Test.YtfojedaccfenfabU2
namespace Go.Proofs.Ytfojedaccfenfab
namespace Abs
open Go.RowKit Go.Shelf
set_option linter.unusedVariables false

set_option maxRecDepth 100000 in
set_option maxHeartbeats 2000000 in
theorem it_back0 (m l Bs bo cap : Nat) (ad : Option Addr) (W : World) (hb : W.cell? ⟨Bs, bo, none⟩ = some (.slice ad 0 cap)) (J : World → Prop) (h0 : J W) :
    CallsIn Fence.wide (m + 1) prog F_slices_Backward_edit_Edit_edit_Edit_1 #[.func (.yield l) #[] #[], .pointer (some ⟨Bs, bo, none⟩)] W fun e W' => (∃ v, e = .returned v) ∧ J W' := by
  refine callsIn_of_wp Try.func48 rfl trivial ?_ rfl
  simp only [Try.ntmps48, List.size_toArray, List.length_cons, List.length_nil, Nat.reduceAdd, Nat.reduceSub, Array.replicate_succ, Array.replicate_zero, List.push_toArray, List.append_toArray, List.nil_append, List.cons_append]
  gi_wp2
  gi_loopw [3] (fun i wr => i = .int .i64 (-1) ∧ J wr) (fun _ _ => 0)
  case atStart => exact ⟨by simp, h0⟩
  case round =>
    obtain ⟨rfl, hJs⟩ := hrel
    gi_wp2
    go_end0
    exact ⟨⟨_, rfl⟩, hJs⟩

/-- whatever lies below B, and whatever holds cells, lies as it lay -/
structure Turns (B : Nat) (W W' : World) : Prop where
  size : W.heap.size ≤ W'.heap.size
  same : Same W W'
  keep : ∀ c o, W.heap[c]? = some o → (c < B ∨ o.isCells = true) → W'.heap[c]? = some o
theorem Turns.refl (B : Nat) (W : World) : Turns B W W := ⟨Nat.le_refl _, .refl W, fun c o h _ => h⟩
theorem Turns.putObj {B : Nat} {W : World} {l : Nat} {o : Obj} (o' : Obj) (hB : B ≤ l) (hl : W.heap[l]? = some o) (ho : o.isCells = false) : Turns B W (W.putObj l o') where
  size := by rw [World.putObj_size]; exact Nat.le_refl _
  same := ⟨rfl, rfl, rfl⟩
  keep c o2 h hc := by
    have : c ≠ l := by
      rintro rfl
      rw [hl] at h; injection h with h; subst h
      rcases hc with hc | hc
      · omega
      · rw [ho] at hc; cases hc
    rw [World.putObj_heap_other this]; exact h
theorem Turns.alloc (B : Nat) (W : World) (o : Obj) : Turns B W (W.alloc o) where
  size := by rw [World.size_alloc]; omega
  same := ⟨rfl, rfl, rfl⟩
  keep c o2 h _ := by rw [Below.heap_alloc _ _ _ (Array.getElem?_eq_some_iff.1 h).1]; exact h
theorem Turns.trans {B : Nat} {W W' W'' : World} (h : Turns B W W') (k : Turns B W' W'') : Turns B W W'' :=
  ⟨Nat.le_trans h.size k.size, h.same.trans k.same, fun c o ho hc => k.keep c o (h.keep c o ho hc) hc⟩
theorem Turns.cell {B : Nat} {W W' : World} (h : Turns B W W') {p : Addr} {v : Value} (hp : W.cell? p = some v) : W'.cell? p = some v := by
  unfold World.cell? at hp ⊢
  split at hp
  · rename_i C e fr hb
    rw [h.keep _ _ hb (.inr rfl)]; exact hp
  · cases hp

/-- the elements of a slice of edits -/
def EdCells (W : World) (Bs bo : Nat) (ad : Option Addr) (len cap : Nat) (c0 c1 c2 : Nat → Value) : Prop :=
  W.cell? ⟨Bs, bo, none⟩ = some (.slice ad len cap) ∧ (len = 0 ∨ ∃ b off, ad = some ⟨b, off, none⟩ ∧ ∀ j, j < len → W.cell? ⟨b, off + j * 3, none⟩ = some (c0 j) ∧ W.cell? ⟨b, off + j * 3 + 1, none⟩ = some (c1 j) ∧ W.cell? ⟨b, off + j * 3 + 2, none⟩ = some (c2 j))

theorem foldl2 (T : Array Value) (p1 p2 : Nat) (x y : Value) : ((#[p1, p2].zip #[x, y]).foldl (fun (tmps : Array Value) (q : Nat × Value) => match q with | (t, a) => tmps.setIfInBounds t a) T) = (T.setIfInBounds p1 x).setIfInBounds p2 y := by simp

theorem wp_back {m p1 p2 : Nat} {a : Act} {w : World} {g : Operand} {assign body : Code} {Q : Exit → Act → World → Prop} {Bs bo len cap : Nat} {ad : Option Addr} {c0 c1 c2 : Nat → Value} (hlen : len * 24 ≤ 140737488355328)
    (hg : a.eval g = .func (.func F_slices_Backward_edit_Edit_edit_Edit_1) #[] #[.pointer (some ⟨Bs, bo, none⟩)])
    (I : Nat → World → Prop) (A : Nat → Act → World → Prop)
    (hI : ∀ k W W', I k W → Turns w.heap.size W W' → I k W') (hA : ∀ k a W W', A k a W → Turns w.heap.size W W' → A k a W')
    (hE : ∀ k W, I k W → EdCells W Bs bo ad len cap c0 c1 c2) (h0 : I 0 w)
    (hassign : ∀ r k W, k < len → I k W → assign.wpIn (Fence.wide.inRound r) (m + 1) prog (fun e a₁ W₁ => e = .normal ∧ A k a₁ W₁ ∧ Below W.heap.size W W₁)
      { tmps := (a.tmps.setIfInBounds p1 (.int .i64 ((len - 1 - k : Nat) : Int))).setIfInBounds p2 (.agg #[c0 (len - 1 - k), c1 (len - 1 - k), c2 (len - 1 - k)]), defers := [] } W)
    (hbody : ∀ r k a₁ W, k < len → A k a₁ W → body.wpIn (Fence.wide.inRound r) (m + 1) prog (fun e a₂ W' => e = .normal ∧ I (k + 1) W' ∧ ∀ c, w.heap.size ≤ c → c < W.heap.size → (∀ C t fr, W.heap[c]? ≠ some (.cells C t fr)) → W'.heap[c]? = W.heap[c]?) a₁ W)
    (hdone : ∀ D W, w.heap.size ≤ D → I len W → W.heap[D]? = some (.deferred (some [])) → Q .normal { a with defers := { target := .collected D, args := #[] } :: a.defers } W) :
    (Code.rangeFunc g #[p1, p2] assign body).wpIn Fence.wide (m + 3) prog Q a w := by
  refine wpIn_rangeFunc fun fn hfn => ?_
  obtain ⟨rec, hrec⟩ : ∃ rec : LoopState → Option Code → Loop, rec = fun st pe => { state := st, pending := pe, fn, tmps := a.tmps, params := #[p1, p2], assign, body, defers := w.heap.size } := ⟨_, rfl⟩
  obtain ⟨W1, hW1⟩ : ∃ W1, (w.alloc (.deferred (some []))).alloc (.loop (rec .ready none)) = W1 := ⟨_, rfl⟩
  have hL1 : W1.heap[w.heap.size + 1]? = some (.loop (rec .ready none)) := by
    rw [← hW1]; have := World.alloc_heap_new (w.alloc (.deferred (some []))) (.loop (rec .ready none)); rwa [World.size_alloc] at this
  have hK1 : W1.heap[w.heap.size]? = some (.deferred (some [])) := by
    rw [← hW1]; exact (Below.heap_alloc _ _ _ (by simp)).trans (World.alloc_heap_new w _)
  have hI1 : I 0 W1 := by rw [← hW1]; exact hI 0 _ _ h0 ((Turns.alloc _ w _).trans (.alloc _ _ _))
  refine ⟨w.heap.size + 1, [{ target := .collected w.heap.size, args := #[] }], W1, { target := .fn (.func F_slices_Backward_edit_Edit_edit_Edit_1) #[.pointer (some ⟨Bs, bo, none⟩)], args := #[.func (.yield (w.heap.size + 1)) #[] #[]] }, W1, F_slices_Backward_edit_Edit_edit_Edit_1,
    #[.func (.yield (w.heap.size + 1)) #[] #[]] ++ #[.pointer (some ⟨Bs, bo, none⟩)], W1, ?_, ?_, fun _ _ => trivial, ?_, fun h => (by cases h), ?_⟩
  · rw [← hW1, hrec]; exact run_enterLoop_outer _ _ _ _ _
  · simp only [resolve, hg]
    simp [go_sem]
  · have hgood : goodFn prog F_slices_Backward_edit_Edit_edit_Edit_1 = true := by kernel_rfl
    have := run_callFunc (P := prog) (w := W1) (vs := #[.func (.yield (w.heap.size + 1)) #[] #[]] ++ #[.pointer (some ⟨Bs, bo, none⟩)]) hgood
    simp only [invoke]
    exact this
  · let J : Nat → World → Prop := fun k W => I k W ∧ W.heap[w.heap.size + 1]? = some (.loop (rec .ready none)) ∧ W.heap[w.heap.size]? = some (.deferred (some []))
    have fin : ∀ e W', ((∃ v, e = Ending.returned v) ∧ J len W') → rangePost Fence.wide (m + 3) prog (w.heap.size + 1) Q { a with defers := [{ target := .collected w.heap.size, args := #[] }] ++ a.defers } e W' := by
      rintro e W' ⟨⟨v, rfl⟩, hi, hl, hk⟩
      refine ⟨none, _, by have := run_endLoop (P := prog) hl (by rw [hrec]; simp); rw [hrec] at this; exact this, ?_⟩
      exact hdone w.heap.size _ (Nat.le_refl _) (hI _ _ _ hi (.putObj _ (by omega) hl rfl)) ((World.putObj_heap_other (by omega)).trans hk)
    by_cases hz : len = 0
    · subst hz
      have hb := (hE 0 W1 hI1).1
      exact (it_back0 (m + 1) (w.heap.size + 1) Bs bo cap ad W1 hb (J 0) ⟨hI1, hL1, hK1⟩).mono fin
    · obtain ⟨b, off, rfl, _⟩ := (hE 0 W1 hI1).2.resolve_left hz
      refine (it_back (m + 1) (w.heap.size + 1) Bs bo len cap b off c0 c1 c2 J hlen (fun k W hj => ?_) (fun k W hk hj => ?_) W1 ⟨hI1, hL1, hK1⟩).mono fin
      · obtain ⟨h1, h2⟩ := hE k W hj.1
        obtain ⟨b', off', e, h3⟩ := h2.resolve_left hz
        injection e with e; injection e with e1 e2 e3; subst e1; subst e2
        exact ⟨h1, h3⟩
      · obtain ⟨hi, hl, hd⟩ := hj
        have hlt : w.heap.size + 1 < W.heap.size := (Array.getElem?_eq_some_iff.1 hl).1
        have hy := run_yield (P := prog) (args := #[.int .i64 ((len - 1 - k : Nat) : Int), .agg #[c0 (len - 1 - k), c1 (len - 1 - k), c2 (len - 1 - k)]]) hl (by rw [hrec]; rfl)
        rw [hrec] at hy
        have ha := hassign (w.heap.size + 1) k W hk hi
        rw [← foldl2] at ha
        refine ⟨fn, _, assign, body, hy, roundIn_of_wpIn hfn (wpIn_mono ha ?_)⟩
        rintro e a1 W2 ⟨rfl, hA1, hb2⟩
        have hl2 : W2.heap[w.heap.size + 1]? = some (.loop (rec .ready none)) := (hb2.block _ hlt).trans hl
        have hd2 : W2.heap[w.heap.size]? = some (.deferred (some [])) := (hb2.block _ (by omega)).trans hd
        have hlt2 : w.heap.size + 1 < W2.heap.size := (Array.getElem?_eq_some_iff.1 hl2).1
        refine ⟨_, run_beginRound hl2 (by rw [hrec]), ?_⟩
        have hl3 : (W2.putObj (w.heap.size + 1) (.loop { rec .ready none with state := .busy })).heap[w.heap.size + 1]? = some (.loop { rec .ready none with state := .busy }) := World.putObj_heap_same hlt2
        have hd3 : (W2.putObj (w.heap.size + 1) (.loop { rec .ready none with state := .busy })).heap[w.heap.size]? = some (.deferred (some [])) := (World.putObj_heap_other (by omega)).trans hd2
        refine wpIn_mono (hbody (w.heap.size + 1) k a1 _ hk (hA k a1 _ _ hA1 (.putObj _ (by omega) hl2 rfl))) ?_
        rintro e a2 W4 ⟨rfl, hi4, hk4⟩
        have hl4 : W4.heap[w.heap.size + 1]? = some (.loop { rec .ready none with state := .busy }) := (hk4 _ (by omega) (Array.getElem?_eq_some_iff.1 hl3).1 (by rw [hl3]; intro _ _ _ h; cases h)).trans hl3
        have hd4 : W4.heap[w.heap.size]? = some (.deferred (some [])) := (hk4 _ (by omega) (Array.getElem?_eq_some_iff.1 hd3).1 (by rw [hd3]; intro _ _ _ h; cases h)).trans hd3
        have he := run_endRound (P := prog) none hl4
        refine ⟨_, _, he, rfl, hI _ _ _ hi4 (.putObj _ (by omega) hl4 rfl), ?_, (World.putObj_heap_other (by omega)).trans hd4⟩
        rw [World.putObj_heap_same (Array.getElem?_eq_some_iff.1 hl4).1, hrec]
        rfl

end Abs
end Go.Proofs.Ytfojedaccfenfab
