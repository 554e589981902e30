/- Slots; a list of edits in memory; muted contexts with a box, and with a frame's own block beside it. -/
import Derived.Test.YtfojedaccfenfabU5
namespace Go.Proofs.Ytfojedaccfenfab
namespace Abs
set_option linter.unusedVariables false
set_option linter.unusedSimpArgs false

def Slots (T : Array Value) (w : World) (M : Ctx) (sl : List D) : Prop := ∀ (t : Nat) (d : D) (v : Value), sl[t]? = some d → T[t]? = some v → Rep w M d v
theorem Slots.top {T : Array Value} {w : World} {M : Ctx} (k : Nat) : Slots T w M (List.replicate k .top) := fun t d v hd _ => by
  rw [List.getElem?_replicate] at hd
  split at hd
  · injection hd with hd; subst hd; exact .top _
  · cases hd
theorem Slots.set {T : Array Value} {w : World} {M : Ctx} {sl : List D} (h : Slots T w M sl) {t : Nat} {d : D} (hr : Rep w M d (T.getD t undef)) : Slots T w M (sl.set t d) := fun t' d' v hd hv => by
  rw [List.getElem?_set] at hd
  split at hd
  · rename_i e
    subst e
    split at hd
    · injection hd with hd
      subst hd
      rw [Array.getD_eq_getD_getElem?, hv] at hr
      exact hr
    · cases hd
  · exact h t' d' v hd hv
theorem Slots.get {T : Array Value} {w : World} {M : Ctx} {sl : List D} (h : Slots T w M sl) {t : Nat} {d : D} (hd : nth sl t = d) (hs : T.size = sl.length) (ht : t < sl.length) : Rep w M d (T.getD t undef) := by
  have h1 : sl[t]? = some d := by rw [← hd]; exact nth_get ht
  have h2 : T[t]? = some T[t] := by simp [hs, ht]
  have := h t d _ h1 h2
  rwa [Array.getD_eq_getD_getElem?, h2]

theorem open_eds {w : World} {M : Ctx} {l : List Ed} {v : Value} (h : Rep w M (.lst (l.map edD)) v) : ∃ (ad : Option Addr) (cap : Nat) (c0 c1 c2 : Nat → Value), v = .slice ad l.length cap ∧
    (l.length = 0 ∨ ∃ b off, ad = some ⟨b, off, none⟩ ∧ b < w.heap.size ∧ ¬ Occ M b ∧ ∀ j, j < l.length → w.cell? ⟨b, off + j * 3, none⟩ = some (c0 j) ∧ w.cell? ⟨b, off + j * 3 + 1, none⟩ = some (c1 j) ∧ w.cell? ⟨b, off + j * 3 + 2, none⟩ = some (c2 j)) ∧
    ∀ j, j < l.length → Rep w M (edD (edAt l j)) (.agg #[c0 j, c1 j, c2 j]) := by
  generalize hL : l.map edD = L at h
  cases h with
  | lst0 a c =>
    have : l = [] := by simpa using hL
    subst this
    exact ⟨a, c, fun _ => undef, fun _ => undef, fun _ => undef, rfl, .inl rfl, fun j hj => by simp at hj⟩
  | lst _ ad c sz u hc hs hb hlv hsz hcell hr =>
    subst hL
    obtain ⟨b, off, sp⟩ := ad
    simp only at hs
    subst hs
    have hget : ∀ j, j < l.length → (l.map edD)[j]? = some (edD (edAt l j)) := fun j hj => by simp [edAt, hj]
    refine ⟨some ⟨b, off, none⟩, c, fun j => u j 0, fun j => u j 1, fun j => u j 2, by simp, ?_, ?_⟩
    · by_cases hz : l.length = 0
      · exact .inl hz
      · refine .inr ⟨b, off, rfl, hb, hlv, fun j hj => ?_⟩
        have h3 : sz = 3 := (hsz _ (List.mem_of_getElem? (hget j hj))).symm
        subst h3
        have k0 := hcell j _ (hget j hj) 0 _ rfl
        have k1 := hcell j _ (hget j hj) 1 _ rfl
        have k2 := hcell j _ (hget j hj) 2 _ rfl
        rw [Addr.lit_add] at k0 k1 k2
        exact ⟨k0, k1, k2⟩
    · intro j hj
      refine .agg _ _ rfl fun i c v hc hv => ?_
      have key := hr j _ (hget j hj) i c hc
      rcases i with _ | _ | _ | i
      · simp at hv; subst hv; exact key
      · simp at hv; subst hv; exact key
      · simp at hv; subst hv; exact key
      · simp at hv

/-! ### one block live among the mute ones -/
def boxM (M : Ctx) (b0 : Nat) : Ctx := fun b => if b = b0 then ⟨(M b).ver, (M b).loc, false⟩ else mute M b
def boxH (M : Ctx) (b0 : Nat) (cs : List D) : Heap := fun b => if b = b0 then ⟨(M b).ver, .cells cs⟩ else muteH M b
theorem boxM_loc (M : Ctx) (b0 b : Nat) : (boxM M b0 b).loc = (M b).loc := by unfold boxM; split <;> rfl
theorem boxM_ver (M : Ctx) (b0 b : Nat) : (boxM M b0 b).ver = (M b).ver := by unfold boxM; split <;> rfl
theorem boxM_opq {M : Ctx} {b0 b : Nat} (h : b ≠ b0) : (boxM M b0 b).opq = (M b).loc.isSome := by unfold boxM; rw [if_neg h]; rfl
theorem boxM_occ {M : Ctx} {b0 c : Nat} : Occ (boxM M b0) c ↔ Occ M c := by
  constructor <;> rintro ⟨b, base, h⟩
  · rw [boxM_loc] at h; exact ⟨b, base, h⟩
  · exact ⟨b, base, by rw [boxM_loc]; exact h⟩

theorem box_sim {M : Ctx} {w : World} {n b0 c base : Nat} {C : Array Value} {e : TypeId} {cs : List D} (hm : Mutes n w M) (hb : b0 < n) (hl : (M b0).loc = some (.mem c base)) (hc : w.heap[c]? = some (.cells C e (0, 0))) (hfit : base + cs.length ≤ C.size)
    (hr : ∀ j d, cs[j]? = some d → ∃ v, C[base + j]? = some v ∧ Rep w (boxM M b0) d v) : Sim w (boxM M b0) (mrg n (boxH M b0 cs) []) := by
  have hM := hm.sim
  have e1 : mrg n (boxH M b0 cs) [] = boxH M b0 cs := by
    funext b
    by_cases hbn : b < n
    · exact mrg_lt hbn
    · obtain ⟨h1, h2⟩ := hm.high b (by omega)
      have hne : b ≠ b0 := by omega
      simp [mrg, hbn, boxH, muteH, hne, h1, h2, blk0]
  rw [e1]
  refine ⟨fun b => ?_, fun b => ?_, fun b b' c base base' h h' => ?_, fun b => ?_⟩
  · rw [boxM_ver]; unfold boxH muteH; split <;> rfl
  · rw [boxM_loc]
    by_cases hbb : b = b0
    · subst hbb
      simp only [boxH, if_true]
      exact .inr ⟨c, base, C, e, hl, hc, hfit, hr⟩
    · have e2 : boxH M b0 cs b = muteH M b := by simp [boxH, hbb]
      rw [e2]
      show ConOk w _ (M b).loc (if (M b).loc.isSome then .veil else .none)
      cases hl : (M b).loc with
      | none => exact rfl
      | some x => exact fun c base e => hm.known b c base (by rw [hl, e])
  · rw [boxM_loc] at h h'; exact hm.inj _ _ _ _ _ h h'
  · by_cases hbb : b = b0
    · subst hbb; simp [boxM, boxH, Con.isOpq]
    · rw [boxM_opq hbb]
      have e2 : boxH M b0 cs b = muteH M b := by simp [boxH, hbb]
      rw [e2]
      show (M b).loc.isSome = (if (M b).loc.isSome then Con.veil else .none).isOpq
      cases (M b).loc <;> rfl

def twoM (M : Ctx) (b0 b1 c1 base1 : Nat) : Ctx := updM (boxM M b0) b1 ⟨1, some (.mem c1 base1), false⟩
theorem twoM_occ {M : Ctx} {b0 b1 c1 base1 c : Nat} (h : Occ (twoM M b0 b1 c1 base1) c) : Occ M c ∨ c = c1 := by
  obtain ⟨b, base, h⟩ := h
  simp only [twoM, updM] at h
  split at h
  · injection h with h; injection h with h; exact .inr h.symm
  · rw [boxM_loc] at h; exact .inl ⟨b, base, h⟩

theorem two_sim {M : Ctx} {w : World} {n b0 c base t c1 base1 : Nat} {C C1 : Array Value} {e e1 : TypeId} {cs cs1 : List D} {lc : List Blk} (hm : Mutes n w M) (hb : b0 < n) (hl : (M b0).loc = some (.mem c base)) (hc : w.heap[c]? = some (.cells C e (0, 0))) (hfit : base + cs.length ≤ C.size)
    (hr : ∀ j d, cs[j]? = some d → ∃ v, C[base + j]? = some v ∧ Rep w (twoM M b0 (n + t) c1 base1) d v)
    (hnew : ¬ Occ M c1) (hc1 : w.heap[c1]? = some (.cells C1 e1 (0, 0))) (hfit1 : base1 + cs1.length ≤ C1.size) (hr1 : ∀ j d, cs1[j]? = some d → ∃ v, C1[base1 + j]? = some v ∧ Rep w (twoM M b0 (n + t) c1 base1) d v)
    (ht : lc[t]? = some ⟨1, .cells cs1⟩) (hlc : ∀ i, i ≠ t → lc.getD i blk0 = blk0) : Sim w (twoM M b0 (n + t) c1 base1) (mrg n (boxH M b0 cs) lc) := by
  have hlt : ∀ b, b < n → twoM M b0 (n + t) c1 base1 b = boxM M b0 b := fun b hb => by simp [twoM, updM, show b ≠ n + t by omega]
  have heq : twoM M b0 (n + t) c1 base1 (n + t) = ⟨1, some (.mem c1 base1), false⟩ := by simp [twoM, updM]
  have hhi : ∀ b, n ≤ b → b ≠ n + t → twoM M b0 (n + t) c1 base1 b = ⟨0, none, false⟩ := fun b hb hne => by
    obtain ⟨h1, h2⟩ := hm.high b hb
    simp [twoM, updM, hne, boxM, show b ≠ b0 by omega, mute, h1, h2]
  have hHt : mrg n (boxH M b0 cs) lc (n + t) = ⟨1, .cells cs1⟩ := by rw [mrg_loc]; simp [List.getD, ht]
  have hHhi : ∀ b, n ≤ b → b ≠ n + t → mrg n (boxH M b0 cs) lc b = blk0 := fun b hb hne => by
    obtain ⟨i, rfl⟩ : ∃ i, b = n + i := ⟨b - n, by omega⟩
    rw [mrg_loc]; exact hlc i (by omega)
  refine ⟨fun b => ?_, fun b => ?_, fun b b' c base base' h h' => ?_, fun b => ?_⟩
  · by_cases hbn : b < n
    · rw [hlt b hbn, mrg_lt hbn, boxM_ver]; unfold boxH muteH; split <;> rfl
    · by_cases hbt : b = n + t
      · subst hbt; rw [heq, hHt]
      · rw [hhi b (by omega) hbt, hHhi b (by omega) hbt]; rfl
  · by_cases hbn : b < n
    · rw [hlt b hbn, mrg_lt hbn, boxM_loc]
      by_cases hbb : b = b0
      · subst hbb
        simp only [boxH, if_true]
        exact .inr ⟨c, base, C, e, hl, hc, hfit, hr⟩
      · have e2 : boxH M b0 cs b = muteH M b := by simp [boxH, hbb]
        rw [e2]
        show ConOk w _ (M b).loc (if (M b).loc.isSome then .veil else .none)
        cases hl : (M b).loc with
        | none => exact rfl
        | some x => exact fun c base e => hm.known b c base (by rw [hl, e])
    · by_cases hbt : b = n + t
      · subst hbt
        rw [hHt, heq]
        exact .inr ⟨c1, base1, C1, e1, rfl, hc1, hfit1, hr1⟩
      · rw [hhi b (by omega) hbt, hHhi b (by omega) hbt]; exact rfl
  · have key : ∀ b c base, (twoM M b0 (n + t) c1 base1 b).loc = some (.mem c base) → (b = n + t ∧ c = c1) ∨ ((M b).loc = some (.mem c base) ∧ b ≠ n + t) := fun b c base h => by
      by_cases hbt : b = n + t
      · subst hbt; rw [heq] at h; injection h with h; injection h with h h2; exact .inl ⟨rfl, h.symm⟩
      · by_cases hbn : b < n
        · rw [hlt b hbn, boxM_loc] at h; exact .inr ⟨h, hbt⟩
        · rw [hhi b (by omega) hbt] at h; cases h
    rcases key _ _ _ h with ⟨q1, q2⟩ | ⟨q1, q2⟩ <;> rcases key _ _ _ h' with ⟨r1, r2⟩ | ⟨r1, r2⟩
    · rw [q1, r1]
    · exact (hnew ⟨b', base', q2 ▸ r1⟩).elim
    · exact (hnew ⟨b, base, r2 ▸ q1⟩).elim
    · exact hm.inj _ _ _ _ _ q1 r1
  · by_cases hbn : b < n
    · rw [hlt b hbn, mrg_lt hbn]
      by_cases hbb : b = b0
      · subst hbb; simp [boxM, boxH, Con.isOpq]
      · rw [boxM_opq hbb]
        have e2 : boxH M b0 cs b = muteH M b := by simp [boxH, hbb]
        rw [e2]
        show (M b).loc.isSome = (if (M b).loc.isSome then Con.veil else .none).isOpq
        cases (M b).loc <;> rfl
    · by_cases hbt : b = n + t
      · subst hbt; rw [heq, hHt]; rfl
      · rw [hhi b (by omega) hbt, hHhi b (by omega) hbt]; rfl

theorem mrg_blk0 (n : Nat) (h : Heap) (k : Nat) : mrg n h (List.replicate k blk0) = mrg n h [] := by
  funext b
  unfold mrg
  split
  · rfl
  · simp only [List.getD, List.getElem?_replicate]
    split <;> rfl

/-- where a function begins -/
theorem sim_enter {w : World} {M : Ctx} {n : Nat} {h : Heap} {ds : List D} {vs : Array Value} (k : Nat) (hsim : Sim w M (mrg n h [])) (hreps : Reps w M ds vs) :
    SimA ⟨n, ds ++ List.replicate (k - ds.length) .top, h, List.replicate k blk0⟩ { tmps := vs ++ Array.replicate (k - vs.size) undef, defers := [] } w M := by
  refine ⟨rfl, by simp [hreps.size], fun t d v hd hv => ?_, ?_⟩
  · simp only at hd hv
    by_cases ht : t < ds.length
    · rw [List.getElem?_append_left ht] at hd
      rw [Array.getElem?_append_left (by rw [hreps.size]; exact ht)] at hv
      exact hreps.rep t d v hd hv
    · rw [List.getElem?_append_right (by omega), List.getElem?_replicate] at hd
      split at hd
      · injection hd with hd; subst hd; exact .top _
      · cases hd
  · show Sim w M (mrg n h (List.replicate k blk0))
    rw [mrg_blk0]; exact hsim

end Abs
end Go.Proofs.Ytfojedaccfenfab
