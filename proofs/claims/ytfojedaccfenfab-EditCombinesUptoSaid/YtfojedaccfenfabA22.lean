/- Calls with live slices where the callee wants data; calls with a nil slice that the callee appends to; functions that append to a slice of their caller's. -/
import Derived.Test.YtfojedaccfenfabA21
namespace Go.Proofs.Ytfojedaccfenfab
namespace Abs
set_option linter.unusedVariables false

variable {P : Program} {n : Nat} {sl : List D} {h : Heap} {lc : List Blk}

/-- values without addresses -/
inductive Sc : D → Prop
  | abool : Sc .abool
  | bool (b : Bool) : Sc (.bool b)
  | int (k : IntKind) (i : Int) : Sc (.int k i)
  | str (s : ByteArray) : Sc (.str s)
  | nils : Sc .nils
  | agg (cs : List D) (h : ∀ c ∈ cs, Sc c) : Sc (.agg cs)
  | tup (cs : List D) (h : ∀ c ∈ cs, Sc c) : Sc (.tup cs)

theorem Sc.rep {w w' : World} {M M' : Ctx} {d : D} (hs : Sc d) : ∀ {v : Value}, Rep w M d v → Rep w' M' d v := by
  induction hs with
  | abool => intro v h; cases h; exact .abool _
  | bool b => intro v h; cases h; exact .bool _
  | int k i => intro v h; cases h; exact .int ..
  | str s => intro v h; cases h; exact .str _
  | nils => intro v h; cases h; exact .nils
  | agg cs _ ih => intro v h; cases h with | agg _ vs hl h => exact .agg cs vs hl fun i c v hc hv => ih c (List.mem_of_getElem? hc) (h i c v hc hv)
  | tup cs _ ih => intro v h; cases h with | tup _ vs hl h => exact .tup cs vs hl fun i c v hc hv => ih c (List.mem_of_getElem? hc) (h i c v hc hv)

/-- all of a heap, held to be data -/
def FX (N : Nat) (H : Heap) : Wx := ⟨0, (List.range N).map H, [], []⟩

theorem fx_mrg (N : Nat) (h H : Heap) : mrg 0 H ((List.range N).map h) = mrg N h [] := by
  funext b
  unfold mrg
  by_cases hb : b < N
  · simp [hb]
  · simp [hb]

theorem Pure.frz {f : FuncId} {ds ds' : List D} {r : D} (hp : Pure P f ds r) (hr : Sc r) {N : Nat} {H : Heap} (hf : WkL (FX N H) ds' ds) : ACalls P f ds' N H fun d h' x => h' = H ∧ x = [] ∧ d = r := by
  obtain ⟨h1, h2⟩ := hp 0 fun _ => blk0
  refine ⟨h1, fun w M vs hsim hreps => ?_⟩
  have hX : WxOk (FX N H) := ⟨rfl, fun i x k h => by simp [FX] at h, fun i j t h => by simp [FX] at h⟩
  have hsim0 : Sim w M (mrg (FX N H).n (fun _ => blk0) (FX N H).lc) := by
    show Sim w M (mrg 0 _ ((List.range N).map H))
    rw [fx_mrg]; exact hsim
  have hM : wkM (FX N H) M = fun _ => hole := by
    funext b; simp [wkM, FX]
  have hs1 := wk_sim (h := fun _ => blk0) hX (fun b hb => by simp [FX] at hb) hsim0
  have hre : Reps w (wkM (FX N H) M) ds vs := by
    refine ⟨by rw [hreps.size, hf.len], fun i d v hd hv => ?_⟩
    have hi : i < ds'.length := by rw [← hf.len]; exact (List.getElem?_eq_some_iff.1 hd).1
    exact wk_rep (h := fun _ => blk0) hX hsim0 (hf.get i _ d (nth_get hi) hd) (hreps.rep i _ v (nth_get hi) hv)
  refine (h2 w _ vs hs1 hre).mono ?_
  rintro e w' ⟨v, d, h', x, M', rfl, ⟨hh, hx, hd⟩, hk, hS, hrep, hg⟩
  subst hd; subst hh
  have himm : ∀ c, c < w.heap.size → w'.heap[c]? = w.heap[c]? := fun c hc => hg.imm c hc (by
    rintro ⟨b, base, hl, _⟩
    rw [hM] at hl; cases hl)
  have hst : Step w M w' M := ⟨hg.size, fun _ => Nat.le_refl _, fun _ _ => .inr rfl, fun _ _ h => h, fun _ _ h => h, fun c hc _ => himm c hc, fun c hc C' e' fr' hh => ⟨C', e', fr', by rw [← himm c hc]; exact hh, rfl⟩, hsim.known, fun _ _ => rfl, hg.same⟩
  refine ⟨v, d, H, [], M, rfl, ⟨rfl, rfl, rfl⟩, by simp, ?_, hr.rep hrep, hst.grows _⟩
  exact ⟨hsim.ver, fun b => (hsim.con b).step hst fun c base hl => himm c (hsim.known b c base hl), hsim.inj, hsim.opq⟩

theorem Pure.callF {f : FuncId} {ds ds' : List D} {r : D} (hp : Pure P f ds r) (hr : Sc r) {N : Nat} {H : Heap} {s : St} {dst : Option Nat} {K : D → Chg → Prop} (hH : H = s.hp) (hf : WkL (FX N H) ds' ds) (hK : K r []) : ACalls P f ds' N H (callK s dst K) :=
  (hp.frz hr hf).mono fun d h' x ⟨h1, h2, h3⟩ => .inl ⟨[], by simp [St.inr], h2, by rw [h1, hH]; rfl, by rw [h3]; exact hK⟩

/-- a live slice of one-celled values, read as data -/
theorem fz_ref1 {N : Nat} {H : Heap} {b ver off len : Nat} {cs l : List D} (hb : b < N) (hH : H b = ⟨ver, .cells cs⟩) (hl : l.length = len) (hfit : off + len ≤ cs.length)
    (h1 : ∀ (i : Nat) (d : D), l[i]? = some d → d.cells = [d] ∧ nth cs (off + i) = d ∧ Low 0 d) : Wk (FX N H) (.ref 1 b ver off len) (.lst l) := by
  have := Wk.frz (X := FX N H) 1 b ver off len cs l (by simp [FX, hb, hH]) (by simp [FX]) hl (by omega) (fun d hd => by
    obtain ⟨i, hi⟩ := List.mem_iff_getElem?.1 hd
    rw [(h1 i d hi).1]; rfl) fun i d hd j e he => by
      obtain ⟨q1, q2, q3⟩ := h1 i d hd
      rw [q1] at he
      cases j with
      | zero => simp at he; subst he; rw [Nat.mul_one, Nat.add_zero, q2]; exact .low _ q3
      | succ j => simp at he
  have e : (FX N H).n + b = b := Nat.zero_add b
  rw [e] at this
  exact this

theorem fz_ints {N : Nat} {H : Heap} {b ver : Nat} {l : List Int} (hb : b < N) (hH : H b = ⟨ver, .cells (l.map (.int .i64))⟩) {len : Nat} (hl : len = l.length) : Wk (FX N H) (.ref 1 b ver 0 len) (.lst (l.map (.int .i64))) := by
  refine fz_ref1 hb hH (by simp [hl]) (by simp [hl]) fun i d hd => ?_
  simp only [List.getElem?_map, Option.map_eq_some_iff] at hd
  obtain ⟨x, hx, rfl⟩ := hd
  exact ⟨rfl, by simp [nth, List.getD, hx], .int ..⟩

theorem fz_low {N : Nat} {H : Heap} {d : D} (h : Low 0 d) : Wk (FX N H) d d := .low _ h
theorem fz_nils {N : Nat} {H : Heap} : Wk (FX N H) .nils (.lst []) := .nilsLst

/-! ### a function that appends to its caller's slice -/
/-- with a slice that fills an array of its caller's: it appends `out` to it -/
def Appends (P : Program) (f : FuncId) (mk : D → List D) (sz bytes : Nat) (out : List D) (m : Nat) : Prop :=
  ∀ (n : Nat) (h : Heap) (b ver : Nat) (l : List D) (len : Nat), b < n → 1 ≤ ver → h b = ⟨ver, .cells l⟩ → l.length = len * sz → (len + m) * bytes ≤ 140737488355328 → (∀ c ∈ l, Low n c) →
    ACalls P f (mk (.ref sz b ver 0 len)) n h fun d h' x => x = [] ∧ ∃ ver', ver ≤ ver' ∧ h' = upd h b ⟨ver', .cells (l ++ out)⟩ ∧ d = .ref sz b ver' 0 (len + m)

theorem Appends.call {f : FuncId} {mk : D → List D} {sz bytes m : Nat} {out : List D} (ha : Appends P f mk sz bytes out m) {s : St} {dst : Option Nat} {K : D → Chg → Prop} {N : Nat} {H : Heap} {b ver len : Nat} {l : List D} (hH : H = s.hp) (hN : N = s.n + s.lc.length)
    (hb : b < N) (hv : 1 ≤ ver) (hl : H b = ⟨ver, .cells l⟩) (hlen : l.length = len * sz) (hfit : (len + m) * bytes ≤ 140737488355328) (hlow : ∀ c ∈ l, Low N c)
    (hK : ∀ ver', ver ≤ ver' → K (.ref sz b ver' 0 (len + m)) [(b, ⟨ver', .cells (l ++ out)⟩)]) : ACalls P f (mk (.ref sz b ver 0 len)) N H (callK s dst K) :=
  (ha N H b ver l len hb hv hl hlen hfit hlow).mono fun d h' x ⟨hx, ver', hv', hh, hd⟩ =>
    .inl ⟨[(b, ⟨ver', .cells (l ++ out)⟩)], by simp [St.inr]; omega, hx, by rw [hh, hH]; rfl, by rw [hd]; exact hK ver' hv'⟩

/-- with nil instead: a slice in an array of its own -/
def Fresh (P : Program) (f : FuncId) (ds : List D) (sz : Nat) (out : List D) (m : Nat) : Prop :=
  ∀ (n : Nat) (h : Heap), ACalls P f ds n h fun d h' x => h' = h ∧ ∃ v, x = [⟨v, .cells out⟩] ∧ d = .ref sz n v 0 m

theorem Fresh.call {f : FuncId} {ds : List D} {sz m : Nat} {out : List D} (ha : Fresh P f ds sz out m) (hlow : ∀ c ∈ out, Low 0 c) {t N : Nat} {H : Heap} {K : D → Chg → Prop} (hN : N = n + lc.length) (hH : H = mrg n h lc)
    (ht : t < lc.length) (ho : (lc.getD t blk0).con.isOpq = false) (hK : K (.ref sz (n + t) (lver lc t) 0 m) [(n + t, ⟨lver lc t, .cells out⟩)]) : ACalls P f ds N H (callK (St.mk n sl h lc) (some t) K) := by
  subst hN; subst hH
  exact (ha _ _).mono fun d h' x ⟨hh, v, hx, hd⟩ => .inr ⟨t, sz, m, v, out, rfl, ht, ho, hh, hx, hd, fun c hc => (hlow c hc).mono fun b ver h => h.elim (fun h => (Nat.not_lt_zero _ h).elim) .inr, hK⟩

theorem Appends.fresh {f : FuncId} {mk : D → List D} {sz bytes m : Nat} {out : List D} (ha : Appends P f mk sz bytes out m) (hfit : m * bytes ≤ 140737488355328)
    (hmk : ∀ X : Wx, ∀ d d', Wk X d d' → WkL X (mk d) (mk d')) : Fresh P f (mk .nils) sz out m := by
  intro n h
  obtain ⟨h1, h2⟩ := ha (n + 1) (mrg n h [⟨1, .cells []⟩]) n 1 [] 0 (by omega) (Nat.le_refl _) (by simp [mrg]) (by simp) (by simpa using hfit) (by simp)
  refine ⟨h1, fun w M vs hsim hreps => ?_⟩
  have hhigh : ∀ b, n ≤ b → (M b).ver = 0 := fun b hb => by
    rw [hsim.ver]; simp [mrg, Nat.not_lt.2 hb, blk0]
  have hlow : LowH n h := low_of_sim hsim
  let X : Wx := ⟨n, [], [.nil], [⟨1, .cells []⟩]⟩
  have hX : WxOk X := by
    refine ⟨rfl, fun i x k h1 h2 => ?_, fun i j t h => ?_⟩
    · cases i with
      | zero => simp [X] at h1 h2; subst h1; subst h2; exact Nat.le_refl _
      | succ i => simp [X] at h1
    · cases i <;> simp [X] at h
  have hw := hmk X .nils (.ref sz (n + 0) 1 0 0) (wk_nil rfl rfl rfl)
  have hs1 := wk_sim hX hlow hsim
  have hre : Reps w (wkM X M) (mk (.ref sz n 1 0 0)) vs := by
    refine ⟨by rw [hreps.size]; exact hw.len.symm, fun i d v hd hv => ?_⟩
    have hi : i < (mk .nils).length := by rw [← hw.len]; exact (List.getElem?_eq_some_iff.1 hd).1
    exact wk_rep hX hsim (hw.get i _ d (nth_get hi) hd) (hreps.rep i _ v (nth_get hi) hv)
  have hs2 : Sim w (wkM X M) (mrg (n + 1) (mrg n h [⟨1, .cells []⟩]) []) := by
    have := mrg_nil n h [⟨1, .cells []⟩]
    simp only [List.length_cons, List.length_nil, Nat.zero_add] at this
    rw [this]; exact hs1
  refine (h2 w _ vs hs2 hre).mono ?_
  rintro e w' ⟨v, d, h', x, M', rfl, ⟨hx, ver', hv', hh, hd⟩, hk, hS, hrep, hg⟩
  subst hx; subst hd; subst hh
  refine ⟨v, _, h, [⟨ver', .cells out⟩], M', rfl, ⟨rfl, ver', rfl, rfl⟩, by simpa using hv', ?_, ?_, (wk_grows hX hsim).trans (hg.le (Nat.le_succ n))⟩
  · have e : mrg (n + 1) (upd (mrg n h [⟨1, .cells []⟩]) n ⟨ver', .cells ([] ++ out)⟩) [] = mrg n h [⟨ver', .cells out⟩] := by
      funext b
      unfold mrg upd
      by_cases h1 : b < n
      · have h2 : b < n + 1 := by omega
        have h3 : ¬ b = n := by omega
        simp [h1, h2, h3]
      · by_cases h2 : b = n
        · subst h2; simp
        · have h3 : ¬ b < n + 1 := by omega
          have h4 : b - n = (b - n - 1) + 1 := by omega
          simp only [h1, h3, if_false]
          rw [h4]
          simp
    rw [← e]; exact hS
  · simpa using hrep

end Abs
end Go.Proofs.Ytfojedaccfenfab
