/- Calls with live slices where the callee wants data; calls with a nil slice that the callee appends to; functions that append to a slice of their caller's. Regions whose order is left open, as equations for the symbolic run. Printed by wip/tools/mksym.py: the steps in a region whose order is left open. Calls that take live slices for data for good: the caller's blocks are dropped, and what pointed into them is data from then on. -/
import Derived.Test.YtokdeeagghhliaaA21
namespace Go.Proofs.Ytokdeeagghhliaa
namespace Abs
set_option linter.unusedVariables false

variable {P : Program} {n : Nat} {sl : List D} {h : Heap} {lc : List Blk}

/-- values without addresses -/
inductive Sc : D → Prop
  | abool : Sc .abool
  | bool (b : Bool) : Sc (.bool b)
  | int (k : IntKind) (i : Int) : Sc (.int k i)
  | str (s : ByteArray) : Sc (.str s)
  | nils : Sc .nils
  | agg (cs : List D) (h : ∀ c ∈ cs, Sc c) : Sc (.agg cs)
  | tup (cs : List D) (h : ∀ c ∈ cs, Sc c) : Sc (.tup cs)

theorem Sc.rep {w w' : World} {M M' : Ctx} {d : D} (hs : Sc d) : ∀ {v : Value}, Rep w M d v → Rep w' M' d v := by
  induction hs with
  | abool => intro v h; cases h; exact .abool _
  | bool b => intro v h; cases h; exact .bool _
  | int k i => intro v h; cases h; exact .int ..
  | str s => intro v h; cases h; exact .str _
  | nils => intro v h; cases h; exact .nils
  | agg cs _ ih => intro v h; cases h with | agg _ vs hl h => exact .agg cs vs hl fun i c v hc hv => ih c (List.mem_of_getElem? hc) (h i c v hc hv)
  | tup cs _ ih => intro v h; cases h with | tup _ vs hl h => exact .tup cs vs hl fun i c v hc hv => ih c (List.mem_of_getElem? hc) (h i c v hc hv)

/-- all of a heap, held to be data -/
def FX (N : Nat) (H : Heap) : Wx := ⟨0, (List.range N).map H, [], []⟩

theorem fx_mrg (N : Nat) (h H : Heap) : mrg 0 H ((List.range N).map h) = mrg N h [] := by
  funext b
  unfold mrg
  by_cases hb : b < N
  · simp [hb]
  · simp [hb]

theorem Pure.frz {f : FuncId} {ds ds' : List D} {r : D} (hp : Pure P f ds r) (hr : Sc r) {N : Nat} {H : Heap} (hf : WkL (FX N H) ds' ds) : ACalls P f ds' N H fun d h' x => h' = H ∧ x = [] ∧ d = r := by
  obtain ⟨h1, h2⟩ := hp 0 fun _ => blk0
  refine ⟨h1, fun w M vs hsim hreps => ?_⟩
  have hX : WxOk (FX N H) := ⟨rfl, fun i x k h => by simp [FX] at h, fun i j t h => by simp [FX] at h⟩
  have hsim0 : Sim w M (mrg (FX N H).n (fun _ => blk0) (FX N H).lc) := by
    show Sim w M (mrg 0 _ ((List.range N).map H))
    rw [fx_mrg]; exact hsim
  have hM : wkM (FX N H) M = fun _ => hole := by
    funext b; simp [wkM, FX]
  have hs1 := wk_sim (h := fun _ => blk0) hX (fun b hb => by simp [FX] at hb) hsim0
  have hre : Reps w (wkM (FX N H) M) ds vs := by
    refine ⟨by rw [hreps.size, hf.len], fun i d v hd hv => ?_⟩
    have hi : i < ds'.length := by rw [← hf.len]; exact (List.getElem?_eq_some_iff.1 hd).1
    exact wk_rep (h := fun _ => blk0) hX hsim0 (hf.get i _ d (nth_get hi) hd) (hreps.rep i _ v (nth_get hi) hv)
  refine (h2 w _ vs hs1 hre).mono ?_
  rintro e w' ⟨v, d, h', x, M', rfl, ⟨hh, hx, hd⟩, hk, hS, hrep, hg⟩
  subst hd; subst hh
  have himm : ∀ c, c < w.heap.size → w'.heap[c]? = w.heap[c]? := fun c hc => hg.imm c hc (by
    rintro ⟨b, base, hl, _⟩
    rw [hM] at hl; cases hl)
  have hst : Step w M w' M := ⟨hg.size, fun _ => Nat.le_refl _, fun _ _ => .inr rfl, fun _ _ h => h, fun _ _ h => h, fun c hc _ => himm c hc, fun c hc C' e' fr' hh => ⟨C', e', fr', by rw [← himm c hc]; exact hh, rfl⟩, hsim.known, fun _ _ => rfl, hg.same⟩
  refine ⟨v, d, H, [], M, rfl, ⟨rfl, rfl, rfl⟩, by simp, ?_, hr.rep hrep, hst.grows _⟩
  exact ⟨hsim.ver, fun b => (hsim.con b).step hst fun c base hl => himm c (hsim.known b c base hl), hsim.inj, hsim.opq⟩

theorem Pure.callF {f : FuncId} {ds ds' : List D} {r : D} (hp : Pure P f ds r) (hr : Sc r) {N : Nat} {H : Heap} {s : St} {dst : Option Nat} {K : D → Chg → Prop} (hH : H = s.hp) (hf : WkL (FX N H) ds' ds) (hK : K r []) : ACalls P f ds' N H (callK s dst K) :=
  (hp.frz hr hf).mono fun d h' x ⟨h1, h2, h3⟩ => .inl ⟨[], by simp [St.inr], h2, by rw [h1, hH]; rfl, by rw [h3]; exact hK⟩

/-- a live slice of one-celled values, read as data -/
theorem fz_ref1 {N : Nat} {H : Heap} {b ver off len : Nat} {cs l : List D} (hb : b < N) (hH : H b = ⟨ver, .cells cs⟩) (hl : l.length = len) (hfit : off + len ≤ cs.length)
    (h1 : ∀ (i : Nat) (d : D), l[i]? = some d → d.cells = [d] ∧ nth cs (off + i) = d ∧ Low 0 d) : Wk (FX N H) (.ref 1 b ver off len) (.lst l) := by
  have := Wk.frz (X := FX N H) 1 b ver off len cs l (by simp [FX, hb, hH]) (by simp [FX]) hl (by omega) (fun d hd => by
    obtain ⟨i, hi⟩ := List.mem_iff_getElem?.1 hd
    rw [(h1 i d hi).1]; rfl) fun i d hd j e he => by
      obtain ⟨q1, q2, q3⟩ := h1 i d hd
      rw [q1] at he
      cases j with
      | zero => simp at he; subst he; rw [Nat.mul_one, Nat.add_zero, q2]; exact .low _ q3
      | succ j => simp at he
  have e : (FX N H).n + b = b := Nat.zero_add b
  rw [e] at this
  exact this

theorem fz_ints {N : Nat} {H : Heap} {b ver : Nat} {l : List Int} (hb : b < N) (hH : H b = ⟨ver, .cells (l.map (.int .i64))⟩) {len : Nat} (hl : len = l.length) : Wk (FX N H) (.ref 1 b ver 0 len) (.lst (l.map (.int .i64))) := by
  refine fz_ref1 hb hH (by simp [hl]) (by simp [hl]) fun i d hd => ?_
  simp only [List.getElem?_map, Option.map_eq_some_iff] at hd
  obtain ⟨x, hx, rfl⟩ := hd
  exact ⟨rfl, by simp [nth, List.getD, hx], .int ..⟩

theorem fz_low {N : Nat} {H : Heap} {d : D} (h : Low 0 d) : Wk (FX N H) d d := .low _ h
theorem fz_nils {N : Nat} {H : Heap} : Wk (FX N H) .nils (.lst []) := .nilsLst

/-! ### a function that appends to its caller's slice -/
/-- with a slice that fills an array of its caller's: it appends `out` to it -/
def Appends (P : Program) (f : FuncId) (mk : D → List D) (sz bytes : Nat) (out : List D) (m : Nat) : Prop :=
  ∀ (n : Nat) (h : Heap) (b ver : Nat) (l : List D) (len : Nat), b < n → 1 ≤ ver → h b = ⟨ver, .cells l⟩ → l.length = len * sz → (len + m) * bytes ≤ 140737488355328 → (∀ c ∈ l, Low n c) →
    ACalls P f (mk (.ref sz b ver 0 len)) n h fun d h' x => x = [] ∧ ∃ ver', ver ≤ ver' ∧ h' = upd h b ⟨ver', .cells (l ++ out)⟩ ∧ d = .ref sz b ver' 0 (len + m)

theorem Appends.call {f : FuncId} {mk : D → List D} {sz bytes m : Nat} {out : List D} (ha : Appends P f mk sz bytes out m) {s : St} {dst : Option Nat} {K : D → Chg → Prop} {N : Nat} {H : Heap} {b ver len : Nat} {l : List D} (hH : H = s.hp) (hN : N = s.n + s.lc.length)
    (hb : b < N) (hv : 1 ≤ ver) (hl : H b = ⟨ver, .cells l⟩) (hlen : l.length = len * sz) (hfit : (len + m) * bytes ≤ 140737488355328) (hlow : ∀ c ∈ l, Low N c)
    (hK : ∀ ver', ver ≤ ver' → K (.ref sz b ver' 0 (len + m)) [(b, ⟨ver', .cells (l ++ out)⟩)]) : ACalls P f (mk (.ref sz b ver 0 len)) N H (callK s dst K) :=
  (ha N H b ver l len hb hv hl hlen hfit hlow).mono fun d h' x ⟨hx, ver', hv', hh, hd⟩ =>
    .inl ⟨[(b, ⟨ver', .cells (l ++ out)⟩)], by simp [St.inr]; omega, hx, by rw [hh, hH]; rfl, by rw [hd]; exact hK ver' hv'⟩

/-- with nil instead: a slice in an array of its own -/
def Fresh (P : Program) (f : FuncId) (ds : List D) (sz : Nat) (out : List D) (m : Nat) : Prop :=
  ∀ (n : Nat) (h : Heap), ACalls P f ds n h fun d h' x => h' = h ∧ ∃ v, x = [⟨v, .cells out⟩] ∧ d = .ref sz n v 0 m

theorem Fresh.call {f : FuncId} {ds : List D} {sz m : Nat} {out : List D} (ha : Fresh P f ds sz out m) (hlow : ∀ c ∈ out, Low 0 c) {t N : Nat} {H : Heap} {K : D → Chg → Prop} (hN : N = n + lc.length) (hH : H = mrg n h lc)
    (ht : t < lc.length) (ho : (lc.getD t blk0).con.isOpq = false) (hK : K (.ref sz (n + t) (lver lc t) 0 m) [(n + t, ⟨lver lc t, .cells out⟩)]) : ACalls P f ds N H (callK (St.mk n sl h lc) (some t) K) := by
  subst hN; subst hH
  exact (ha _ _).mono fun d h' x ⟨hh, v, hx, hd⟩ => .inr ⟨t, sz, m, v, out, rfl, ht, ho, hh, hx, hd, fun c hc => (hlow c hc).mono fun b ver h => h.elim (fun h => (Nat.not_lt_zero _ h).elim) .inr, hK⟩

theorem Appends.fresh {f : FuncId} {mk : D → List D} {sz bytes m : Nat} {out : List D} (ha : Appends P f mk sz bytes out m) (hfit : m * bytes ≤ 140737488355328)
    (hmk : ∀ X : Wx, ∀ d d', Wk X d d' → WkL X (mk d) (mk d')) : Fresh P f (mk .nils) sz out m := by
  intro n h
  obtain ⟨h1, h2⟩ := ha (n + 1) (mrg n h [⟨1, .cells []⟩]) n 1 [] 0 (by omega) (Nat.le_refl _) (by simp [mrg]) (by simp) (by simpa using hfit) (by simp)
  refine ⟨h1, fun w M vs hsim hreps => ?_⟩
  have hhigh : ∀ b, n ≤ b → (M b).ver = 0 := fun b hb => by
    rw [hsim.ver]; simp [mrg, Nat.not_lt.2 hb, blk0]
  have hlow : LowH n h := low_of_sim hsim
  let X : Wx := ⟨n, [], [.nil], [⟨1, .cells []⟩]⟩
  have hX : WxOk X := by
    refine ⟨rfl, fun i x k h1 h2 => ?_, fun i j t h => ?_⟩
    · cases i with
      | zero => simp [X] at h1 h2; subst h1; subst h2; exact Nat.le_refl _
      | succ i => simp [X] at h1
    · cases i <;> simp [X] at h
  have hw := hmk X .nils (.ref sz (n + 0) 1 0 0) (wk_nil rfl rfl rfl)
  have hs1 := wk_sim hX hlow hsim
  have hre : Reps w (wkM X M) (mk (.ref sz n 1 0 0)) vs := by
    refine ⟨by rw [hreps.size]; exact hw.len.symm, fun i d v hd hv => ?_⟩
    have hi : i < (mk .nils).length := by rw [← hw.len]; exact (List.getElem?_eq_some_iff.1 hd).1
    exact wk_rep hX hsim (hw.get i _ d (nth_get hi) hd) (hreps.rep i _ v (nth_get hi) hv)
  have hs2 : Sim w (wkM X M) (mrg (n + 1) (mrg n h [⟨1, .cells []⟩]) []) := by
    have := mrg_nil n h [⟨1, .cells []⟩]
    simp only [List.length_cons, List.length_nil, Nat.zero_add] at this
    rw [this]; exact hs1
  refine (h2 w _ vs hs2 hre).mono ?_
  rintro e w' ⟨v, d, h', x, M', rfl, ⟨hx, ver', hv', hh, hd⟩, hk, hS, hrep, hg⟩
  subst hx; subst hd; subst hh
  refine ⟨v, _, h, [⟨ver', .cells out⟩], M', rfl, ⟨rfl, ver', rfl, rfl⟩, by simpa using hv', ?_, ?_, (wk_grows hX hsim).trans (hg.le (Nat.le_succ n))⟩
  · have e : mrg (n + 1) (upd (mrg n h [⟨1, .cells []⟩]) n ⟨ver', .cells ([] ++ out)⟩) [] = mrg n h [⟨ver', .cells out⟩] := by
      funext b
      unfold mrg upd
      by_cases h1 : b < n
      · have h2 : b < n + 1 := by omega
        have h3 : ¬ b = n := by omega
        simp [h1, h2, h3]
      · by_cases h2 : b = n
        · subst h2; simp
        · have h3 : ¬ b < n + 1 := by omega
          have h4 : b - n = (b - n - 1) + 1 := by omega
          simp only [h1, h3, if_false]
          rw [h4]
          simp
    rw [← e]; exact hS
  · simpa using hrep

end Abs
end Go.Proofs.Ytokdeeagghhliaa

namespace Go.Proofs.Ytokdeeagghhliaa
namespace Abs
set_option linter.unusedVariables false

variable {P : Program} {s V : St}

theorem at_det {b ver : Nat} {K : List D → Prop} (ha : V.at b ver K) : ∃ cs, K cs ∧ ∀ K' : List D → Prop, K' cs → V.at b ver K' := by
  unfold St.at at ha ⊢
  generalize V.blk b = x at ha
  cases x with
  | mk v c => cases c <;> first | exact ha.elim | exact ⟨_, ha.2, fun K' h => ⟨ha.1, h⟩⟩

theorem new_det {dst : Option Nat} {con : Con} {K : Nat → Nat → Chg → Prop} (ha : V.new dst con K) : ∃ a b c, K a b c ∧ ∀ K' : Nat → Nat → Chg → Prop, K' a b c → V.new dst con K' := by
  unfold St.new at ha ⊢
  cases dst with
  | none => exact ha.elim
  | some t => exact ⟨_, _, _, ha.2.2, fun K' h => ⟨ha.1, ha.2.1, h⟩⟩

theorem fill_det {K : List D → Prop} : ∀ (l : List (Nat × Nat × D)) (cs : List D), fillD cs l K → ∃ ds, K ds ∧ ∀ K' : List D → Prop, K' ds → fillD cs l K'
  | [], cs, h => ⟨cs, h, fun K' h => h⟩
  | (_, _, _) :: l, cs, h => by
    obtain ⟨ds, h1, h2⟩ := fill_det l _ h.2.2.2
    exact ⟨ds, h1, fun K' h' => ⟨h.1, h.2.1, h.2.2.1, h2 K' h'⟩⟩

theorem srcOf_det {sz : Nat} {d : D} {K : Nat → List D → Prop} (ha : srcOf V sz d K) : ∃ a b, K a b ∧ ∀ K' : Nat → List D → Prop, K' a b → srcOf V sz d K' := by
  unfold srcOf at ha ⊢
  split at ha
  · exact ⟨_, _, ha, fun K' h => h⟩
  · exact ⟨_, _, ha, fun K' h => h⟩
  · exact ⟨_, _, ha.2, fun K' h => ⟨ha.1, h⟩⟩
  · obtain ⟨cs, h1, h2⟩ := at_det ha.2
    exact ⟨_, _, h1.2, fun K' h => ⟨ha.1, h2 _ ⟨h1.1, h⟩⟩⟩
  · exact ha.elim

theorem bounds_det {lo hi : Option D} {n : Nat} {K : Nat → Nat → Prop} (ha : bounds lo hi n K) : ∃ a b, K a b ∧ ∀ K' : Nat → Nat → Prop, K' a b → bounds lo hi n K' := by
  unfold bounds at ha ⊢
  split at ha
  · exact ⟨_, _, ha, fun K' h => h⟩
  · exact ⟨_, _, ha.2.2, fun K' h => ⟨ha.1, ha.2.1, h⟩⟩
  · exact ⟨_, _, ha.2.2, fun K' h => ⟨ha.1, ha.2.1, h⟩⟩
  · exact ⟨_, _, ha.2.2.2, fun K' h => ⟨ha.1, ha.2.1, ha.2.2.1, h⟩⟩
  · exact ha.elim

theorem ld_det {agg : Bool} {k : Nat} {cs : List D} {off : Nat} {K : D → Prop} (ha : ld agg k cs off K) : ∃ d, K d ∧ ∀ K' : D → Prop, K' d → ld agg k cs off K' := by
  cases agg <;> simp only [ld, Bool.false_eq_true, if_true, if_false] at ha ⊢ <;> exact ⟨_, ha.2, fun K' h => ⟨ha.1, h⟩⟩

theorem eqAll_det (ks : List Nat) (xs ys : List D) (K : Bool → Prop) : eqAll ks xs ys K → ∃ b, K b ∧ ∀ K' : Bool → Prop, K' b → eqAll ks xs ys K' := by
  induction ks, xs, ys, K using eqAll.induct with
  | case1 K => intro h; exact ⟨_, h, fun _ h => h⟩
  | case2 ks k a xs k' b ys K ih => intro h; obtain ⟨c, q1, q2⟩ := ih h.2; exact ⟨_, q1, fun K' h' => ⟨h.1, q2 _ h'⟩⟩
  | case3 ks a xs b ys K ih => intro h; obtain ⟨c, q1, q2⟩ := ih h; exact ⟨_, q1, fun K' h' => q2 _ h'⟩
  | case4 ks a xs b ys K ih => intro h; obtain ⟨c, q1, q2⟩ := ih h; exact ⟨_, q1, fun K' h' => q2 _ h'⟩
  | case5 ks xs ys K h1 h2 h3 h4 =>
    intro h
    unfold eqAll at h
    split at h
    · exact (h1 rfl rfl rfl).elim
    · exact (h2 _ _ _ _ _ _ _ rfl rfl rfl).elim
    · exact (h3 _ _ _ _ _ rfl rfl rfl).elim
    · exact (h4 _ _ _ _ _ rfl rfl rfl).elim
    · exact h.elim

theorem binD_det {op : BinOp} {x y : D} {K : D → Prop} (ha : binD op x y K) : ∃ d, K d ∧ ∀ K' : D → Prop, K' d → binD op x y K' := by
  unfold binD at ha ⊢
  split at ha
  · obtain ⟨h1, h2⟩ := ha
    cases op <;> simp only at h2 ⊢ <;> first | exact h2.elim | exact ⟨_, h2, fun K' h => ⟨h1, h⟩⟩ | exact ⟨_, h2.2, fun K' h => ⟨h1, h2.1, h⟩⟩
  · cases op <;> simp only at ha ⊢ <;> first | exact ha.elim | exact ⟨_, ha, fun K' h => h⟩
  · exact ha.elim

theorem atm_det {b ver : Nat} {K : List (List Int × D) → Prop} (ha : V.atm b ver K) : ∃ es, K es ∧ ∀ K' : List (List Int × D) → Prop, K' es → V.atm b ver K' := by
  unfold St.atm at ha ⊢
  split at ha
  · exact ⟨_, ha.2, fun K' h => ⟨ha.1, h⟩⟩
  · exact ha.elim
theorem mlook_det {n : Nat} {m z : D} {kk : Option (List Int)} {K : D → Bool → Prop} (ha : mlook V n m z kk K) : ∃ d b, K d b ∧ ∀ K' : D → Bool → Prop, K' d b → mlook V n m z kk K' := by
  unfold mlook at ha ⊢
  split at ha
  · rename_i kk
    obtain ⟨es, ⟨h1, h2, h3⟩, h4⟩ := atm_det ha
    unfold mres at h3
    cases hg : mget es kk with
    | none => rw [hg] at h3; exact ⟨_, _, h3, fun K' h => h4 _ ⟨h1, h2, by rw [hg]; exact h⟩⟩
    | some d => rw [hg] at h3; exact ⟨_, _, h3, fun K' h => h4 _ ⟨h1, h2, by rw [hg]; exact h⟩⟩
  · exact ⟨_, _, ha.2, fun K' h => ⟨ha.1, h⟩⟩
  · exact ha.elim

def isMap : AOp → Bool
  | .bad => false
  | _ => false
theorem run_det {dst : Option Nat} {K : D → Chg → Prop} {op : AOp} (hm : isMap op = false) (hr : run V dst K op) : ∃ d δ, K d δ ∧ run V dst (fun d' δ' => d' = d ∧ δ' = δ) op := by
  cases op <;> simp only [run] at hr ⊢
  case mov => exact ⟨_, _, hr, rfl, rfl⟩
  case lookup => obtain ⟨d, b, h1, h2⟩ := mlook_det hr; exact ⟨_, _, h1, h2 _ ⟨rfl, rfl⟩⟩
  case lookv => obtain ⟨d, b, h1, h2⟩ := mlook_det hr; exact ⟨_, _, h1, h2 _ ⟨rfl, rfl⟩⟩
  case mupd =>
    split at hr
    · obtain ⟨es, ⟨h1, h2, h3⟩, h4⟩ := atm_det hr
      exact ⟨_, _, h3, h4 _ ⟨h1, h2, rfl, rfl⟩⟩
    · exact hr.elim
  case mkmap => obtain ⟨a, b, c, h1, h2⟩ := new_det hr; exact ⟨_, _, h1, h2 _ ⟨rfl, rfl⟩⟩
  case pick c a b => split at hr <;> first | exact ⟨_, _, hr, rfl, rfl⟩ | exact hr.elim
  case alloc z => obtain ⟨a, b, c, h1, h2⟩ := new_det hr; exact ⟨_, _, h1, h2 _ ⟨rfl, rfl⟩⟩
  case box x => obtain ⟨a, b, c, h1, h2⟩ := new_det hr.2; exact ⟨_, _, h1, hr.1, h2 _ ⟨rfl, rfl⟩⟩
  case build z ps => obtain ⟨ds, h1, h2⟩ := fill_det _ _ hr; exact ⟨_, _, h1, h2 _ ⟨rfl, rfl⟩⟩
  case buildSlice sz z len ps =>
    obtain ⟨ds, h1, h2⟩ := fill_det _ _ hr
    obtain ⟨a, b, c, h3, h4⟩ := new_det h1
    exact ⟨_, _, h3, h2 _ (h4 _ ⟨rfl, rfl⟩)⟩
  case load ag k a =>
    split at hr
    · obtain ⟨d, h1, h2⟩ := ld_det hr; exact ⟨_, _, h1, h2 _ ⟨rfl, rfl⟩⟩
    · obtain ⟨cs, h1, h2⟩ := at_det hr
      obtain ⟨d, h3, h4⟩ := ld_det h1
      exact ⟨_, _, h3, h2 _ (h4 _ ⟨rfl, rfl⟩)⟩
    · exact hr.elim
  case store k a x =>
    split at hr
    · obtain ⟨cs, h1, h2⟩ := at_det hr
      exact ⟨_, _, h1.2.2.2, h2 _ ⟨h1.1, h1.2.1, h1.2.2.1, rfl, rfl⟩⟩
    · exact hr.elim
  case bin op x y => obtain ⟨d, h1, h2⟩ := binD_det hr; exact ⟨_, _, h1, h2 _ ⟨rfl, rfl⟩⟩
  case eqb ng x y => split at hr <;> first | exact ⟨_, _, hr, rfl, rfl⟩ | exact hr.elim
  case nileq k ng x =>
    split at hr
    case h_6 l _ =>
      by_cases hl : l = []
      · exact ⟨_, _, hr.1 hl, fun _ => ⟨rfl, rfl⟩, fun h => (h hl).elim⟩
      · exact ⟨_, _, hr.2 hl, fun h => (hl h).elim, fun _ => ⟨rfl, rfl⟩⟩
    case h_7 len _ =>
      obtain ⟨cs, h1, h2⟩ := at_det hr
      by_cases hl : len = 0
      · exact ⟨_, _, h1.1 hl, h2 _ ⟨fun _ => ⟨rfl, rfl⟩, fun h => (h hl).elim⟩⟩
      · exact ⟨_, _, h1.2 hl, h2 _ ⟨fun h => (hl h).elim, fun _ => ⟨rfl, rfl⟩⟩⟩
    case h_11 =>
      obtain ⟨cs, h1, h2⟩ := atm_det hr
      exact ⟨_, _, h1, h2 _ ⟨rfl, rfl⟩⟩
    case h_10 =>
      obtain ⟨cs, h1, h2⟩ := at_det hr
      exact ⟨_, _, h1.2, h2 _ ⟨h1.1, rfl, rfl⟩⟩
    all_goals first | exact ⟨_, _, hr, rfl, rfl⟩ | exact hr.elim
  case eqs ng ks x y =>
    split at hr
    · obtain ⟨b, h1, h2⟩ := eqAll_det _ _ _ _ hr; exact ⟨_, _, h1, h2 _ ⟨rfl, rfl⟩⟩
    · exact hr.elim
  case un u x => split at hr <;> first | exact ⟨_, _, hr, rfl, rfl⟩ | exact hr.elim
  case conv k x => split at hr <;> first | exact ⟨_, _, hr, rfl, rfl⟩ | exact hr.elim
  case nilck x =>
    split at hr
    · exact ⟨_, _, hr, rfl, rfl⟩
    · exact ⟨_, _, hr, rfl, rfl⟩
    · obtain ⟨cs, h1, h2⟩ := at_det hr; exact ⟨_, _, h1.2, h2 _ ⟨h1.1, rfl, rfl⟩⟩
    · exact hr.elim
  case mkfn f cs => exact ⟨_, _, hr, rfl, rfl⟩
  case mkslice sz by' z l c =>
    split at hr
    · obtain ⟨a, b, c, h1, h2⟩ := new_det hr.2.2.2.2; exact ⟨_, _, h1, hr.1, hr.2.1, hr.2.2.1, hr.2.2.2.1, h2 _ ⟨rfl, rfl⟩⟩
    · exact hr.elim
  case slice sz x lo hi =>
    split at hr
    · obtain ⟨a, b, h1, h2⟩ := bounds_det hr.2; exact ⟨_, _, h1, hr.1, h2 _ ⟨rfl, rfl⟩⟩
    · obtain ⟨cs, h1, h2⟩ := at_det hr.2
      obtain ⟨a, b, h3, h4⟩ := bounds_det h1
      exact ⟨_, _, h3, hr.1, h2 _ (h4 _ ⟨rfl, rfl⟩)⟩
    · obtain ⟨a, b, h1, h2⟩ := bounds_det hr; exact ⟨_, _, h1, h2 _ ⟨rfl, rfl⟩⟩
    · obtain ⟨a, b, h1, h2⟩ := bounds_det hr; exact ⟨_, _, h1, h2 _ ⟨rfl, rfl⟩⟩
    · exact hr.elim
  case slicez x => split at hr <;> first | exact ⟨_, _, hr, rfl, rfl⟩ | exact hr.elim
  case slicea m sz x lo hi =>
    split at hr
    · obtain ⟨cs, h1, h2⟩ := at_det hr
      obtain ⟨a, b, h3, h4⟩ := bounds_det h1.2.2
      exact ⟨_, _, h3, h2 _ ⟨h1.1, h1.2.1, h4 _ ⟨rfl, rfl⟩⟩⟩
    · exact hr.elim
  case fieldAddr off x =>
    split at hr
    · exact ⟨_, _, hr, rfl, rfl⟩
    · obtain ⟨cs, h1, h2⟩ := at_det hr; exact ⟨_, _, h1.2, h2 _ ⟨h1.1, rfl, rfl⟩⟩
    · exact hr.elim
  case field ag off k x =>
    split at hr
    · obtain ⟨d, h1, h2⟩ := ld_det hr; exact ⟨_, _, h1, h2 _ ⟨rfl, rfl⟩⟩
    · exact hr.elim
  case idxS sz x i =>
    split at hr
    · exact ⟨_, _, hr.2.2.2, hr.1, hr.2.1, hr.2.2.1, rfl, rfl⟩
    · obtain ⟨cs, h1, h2⟩ := at_det hr.2.2.2; exact ⟨_, _, h1, hr.1, hr.2.1, hr.2.2.1, h2 _ ⟨rfl, rfl⟩⟩
    · exact hr.elim
  case idxA m sz x i =>
    split at hr
    · obtain ⟨cs, h1, h2⟩ := at_det hr.2.2; exact ⟨_, _, h1.2, hr.1, hr.2.1, h2 _ ⟨h1.1, rfl, rfl⟩⟩
    · exact ⟨_, _, hr.2.2, hr.1, hr.2.1, rfl, rfl⟩
    · exact hr.elim
  case idx ag m sz x i =>
    split at hr
    · obtain ⟨d, h1, h2⟩ := ld_det hr.2.2; exact ⟨_, _, h1, hr.1, hr.2.1, h2 _ ⟨rfl, rfl⟩⟩
    · exact hr.elim
  case len x =>
    split at hr
    · exact ⟨_, _, hr, rfl, rfl⟩
    · exact ⟨_, _, hr, rfl, rfl⟩
    · exact ⟨_, _, hr, rfl, rfl⟩
    · obtain ⟨cs, h1, h2⟩ := at_det hr; exact ⟨_, _, h1, h2 _ ⟨rfl, rfl⟩⟩
    · exact hr.elim
  case slen x => split at hr <;> first | exact ⟨_, _, hr, rfl, rfl⟩ | exact hr.elim
  case append sz by' x y =>
    obtain ⟨m, news, ⟨h0, hr⟩, hs⟩ := srcOf_det hr
    split at hr
    · obtain ⟨a, b, c, h1, h2⟩ := new_det hr.2; exact ⟨_, _, h1, hs _ ⟨h0, hr.1, h2 _ ⟨rfl, rfl⟩⟩⟩
    · obtain ⟨a, b, c, h1, h2⟩ := new_det hr.2; exact ⟨_, _, h1, hs _ ⟨h0, hr.1, h2 _ ⟨rfl, rfl⟩⟩⟩
    · obtain ⟨cs, h1, h2⟩ := at_det hr.2
      exact ⟨_, _, h1.2.2, hs _ ⟨h0, hr.1, h2 _ ⟨h1.1, h1.2.1, rfl, rfl⟩⟩⟩
    · exact hr.elim
  case appendz sz by' z x m =>
    split at hr
    · obtain ⟨a, b, c, h1, h2⟩ := new_det hr.2.2; exact ⟨_, _, h1, hr.1, hr.2.1, h2 _ ⟨rfl, rfl⟩⟩
    · obtain ⟨a, b, c, h1, h2⟩ := new_det hr.2.2; exact ⟨_, _, h1, hr.1, hr.2.1, h2 _ ⟨rfl, rfl⟩⟩
    · exact hr.elim
  case capz x => split at hr <;> first | exact ⟨_, _, hr, rfl, rfl⟩ | exact hr.elim
  case minmax mx xs => split at hr <;> first | exact ⟨_, _, hr.2.2, hr.1, hr.2.1, rfl, rfl⟩ | exact hr.elim
  case extract x i => split at hr <;> first | exact ⟨_, _, hr.2, hr.1, rfl, rfl⟩ | exact hr.elim

def covB (n : Nat) (dc : List (List Nat)) (k : Nat) (x : DOper) (δ : Chg) : Prop := ∀ p ∈ δ, p.1 ∈ covOf n dc k x ∧ p.1 ∉ hidOf n dc x

def stepQ (P : Program) (dc : List (List Nat)) (k : Nat) (x : DOper) (s : St) (K : D → Chg → Prop) : Prop :=
  match x.o.op with
  | .call _ _ | .callv _ _ => ∃ d δ, stepV P x.o (s.hide (hidOf s.n dc x)) (fun d' δ' => d' = d ∧ δ' = δ) ∧ covB s.n dc k x δ ∧ K d δ
  | op => run (s.hide (hidOf s.n dc x)) x.o.dst (fun d δ => covB s.n dc k x δ ∧ K d δ) op

theorem stepQ_adr {dc : List (List Nat)} {k : Nat} {x : DOper} {K : D → Chg → Prop} (h : stepQ P dc k x s K) : adr1 P dc k x s K := by
  unfold stepQ at h
  unfold adr1
  split at h
  · exact h
  · exact h
  · rename_i hc1 hc2
    have hmp : isMap x.o.op = false := by cases x.o.op <;> rfl
    obtain ⟨d, δ, ⟨h1, h2⟩, h3⟩ := run_det hmp h
    refine ⟨d, δ, ?_, h1, h2⟩
    unfold stepV
    split
    · rename_i f args e; exact (hc1 f args e).elim
    · rename_i f args e; exact (hc2 f args e).elim
    · exact h3

def adq (P : Program) (dc : List (List Nat)) : List DOper → Nat → St → (St → Prop) → Prop
  | [], _, s, K => K s
  | x :: r, k, s, K => match x.o.guard with
    | .always => stepQ P dc k x s fun d δ => adq P dc r (k + 1) (s.fin x.o.dst d δ) K
    | .on t want => match nth s.sl t with
      | .bool b => condG b want (stepQ P dc k x s fun d δ => adq P dc r (k + 1) (s.fin x.o.dst d δ) K) (adq P dc r (k + 1) (s.fin x.o.dst (.tup []) []) K)
      | .tup [] => adq P dc r (k + 1) (s.fin x.o.dst (.tup []) []) K
      | _ => False
    | .bad => False

theorem adr1_mono {dc : List (List Nat)} {k : Nat} {x : DOper} {K K' : D → Chg → Prop} (hk : ∀ d δ, K d δ → K' d δ) (h : adr1 P dc k x s K) : adr1 P dc k x s K' :=
  let ⟨d, δ, h1, h2, h3⟩ := h; ⟨d, δ, h1, h2, hk d δ h3⟩

theorem adq_adr {dc : List (List Nat)} {K : St → Prop} : ∀ (l : List DOper) (k : Nat) (s : St), adq P dc l k s K → adr P dc l k s K
  | [], _, _, h => h
  | x :: r, k, s, h => by
    unfold adq at h
    unfold adr
    cases hg : x.o.guard <;> rw [hg] at h
    · exact adr1_mono (fun d δ h => adq_adr r _ _ h) (stepQ_adr h)
    · simp only at h ⊢
      split at h
      · rename_i hb
        rw [condG_iff] at h
        rw [hb]
        exact ⟨fun e => adr1_mono (fun d δ h => adq_adr r _ _ h) (stepQ_adr (h.1 e)), fun e => adq_adr r _ _ (h.2 e)⟩
      · rename_i hb
        rw [hb]
        exact adq_adr r _ _ h
      · exact h.elim
    · exact h.elim

noncomputable def adqS (P : Program) (dc : List (List Nat)) : List DOper → Nat → St → (St → Prop) → Prop := Sealed (adq P dc)
noncomputable def stepQS (P : Program) (dc : List (List Nat)) : Nat → DOper → St → (D → Chg → Prop) → Prop := Sealed (stepQ P dc)
theorem adqS_eq (P : Program) (dc : List (List Nat)) : adqS P dc = adq P dc := sealed_eq _
theorem stepQS_eq (P : Program) (dc : List (List Nat)) : stepQS P dc = stepQ P dc := sealed_eq _

theorem adrawq {os : List DOper} {Q : Exit → St → Prop} (hm : P.follows .mixedOrders = true) (dc : List (List Nat)) (h : adqS P dc os 0 s (Q .normal)) : ADraw P os Q s :=
  adraw hm dc (adq_adr _ _ _ (by rw [adqS_eq] at h; exact h))

section
variable {n : Nat} {sl : List D} {h : Heap} {lc : List Blk} {K : St → Prop} {dc : List (List Nat)} {k : Nat} {r : List DOper}
theorem y_adq0 : adqS P dc [] k (St.mk n sl h lc) K = K (St.mk n sl h lc) := by rw [adqS_eq]; rfl
theorem y_adq (dst : Option Nat) (op : AOp) (ss es : List Nat) : adqS P dc (⟨⟨dst, op, .always⟩, ss, es⟩ :: r) k (St.mk n sl h lc) K =
    stepQS P dc k ⟨⟨dst, op, .always⟩, ss, es⟩ (St.mk n sl h lc) fun d δ => adqS P dc r (k + 1) (St.fin (St.mk n sl h lc) dst d δ) K := by rw [adqS_eq, stepQS_eq]; rfl
theorem y_adq_on (dst : Option Nat) (op : AOp) (t : Nat) (want : Bool) (ss es : List Nat) : adqS P dc (⟨⟨dst, op, .on t want⟩, ss, es⟩ :: r) k (St.mk n sl h lc) K =
    (match nth sl t with
      | .bool b => condG b want (stepQS P dc k ⟨⟨dst, op, .on t want⟩, ss, es⟩ (St.mk n sl h lc) fun d δ => adqS P dc r (k + 1) (St.fin (St.mk n sl h lc) dst d δ) K) (adqS P dc r (k + 1) (St.fin (St.mk n sl h lc) dst (.tup []) []) K)
      | .tup [] => adqS P dc r (k + 1) (St.fin (St.mk n sl h lc) dst (.tup []) []) K
      | _ => False) := by rw [adqS_eq, stepQS_eq]; rfl
theorem y_stepQ (dst : Option Nat) (op : AOp) (g : AGuard) (ss es : List Nat) (K : D → Chg → Prop) (hc : isCall op = false) (hm : isMap op = false) : stepQS P dc k ⟨⟨dst, op, g⟩, ss, es⟩ (St.mk n sl h lc) K =
    run (St.hide (St.mk n sl h lc) (hidOf n dc ⟨⟨dst, op, g⟩, ss, es⟩)) dst (fun d δ => covB n dc k ⟨⟨dst, op, g⟩, ss, es⟩ δ ∧ K d δ) op := by
  rw [stepQS_eq]; cases op <;> first | rfl | (cases hc; done) | (cases hm; done)
theorem y_stepQ_call (dst : Option Nat) (f : FuncId) (args : List Opd) (g : AGuard) (ss es : List Nat) (K : D → Chg → Prop) : stepQS P dc k ⟨⟨dst, .call f args, g⟩, ss, es⟩ (St.mk n sl h lc) K =
    ∃ d δ, stepV P ⟨dst, .call f args, g⟩ (St.hide (St.mk n sl h lc) (hidOf n dc ⟨⟨dst, .call f args, g⟩, ss, es⟩)) (fun d' δ' => d' = d ∧ δ' = δ) ∧ covB n dc k ⟨⟨dst, .call f args, g⟩, ss, es⟩ δ ∧ K d δ := by rw [stepQS_eq]; rfl
theorem y_hid (x : AOper) (ss es : List Nat) : hidOf n dc ⟨x, ss, es⟩ = ss.map (n + ·) ++ es.flatMap fun j => dc.getD j [] := rfl
theorem y_hide0 : St.hide (St.mk n sl h lc) [] = St.mk n sl h lc := rfl
theorem y_hide (t : Nat) (bs : List Nat) : St.hide (St.mk n sl h lc) ((n + t) :: bs) = St.hide (St.mk n sl h (lc.set t ⟨0, .veil⟩)) bs := by
  simp [St.hide, St.app, St.app1, Nat.not_lt.2 (Nat.le_add_right n t)]
theorem y_cov0 (x : DOper) : covB n dc k x [] = True := by simp [covB]
theorem y_cov1 (dst : Option Nat) (op : AOp) (g : AGuard) (ss es : List Nat) (b : Nat) (B : Blk) : covB n dc k ⟨⟨dst, op, g⟩, ss, es⟩ [(b, B)] =
    (b ∈ (if isNew op then dst.toList else []).map (n + ·) ++ cond (isEff op) (dc.getD k []) [] ∧ b ∉ ss.map (n + ·) ++ es.flatMap fun j => dc.getD j []) := by
  simp [covB, covOf, hidOf, owns]
end

/-! ### calls in such regions -/
theorem Pure.draw {f : FuncId} {ds : List D} {r : D} (hp : Pure P f ds r) {args : List Opd} {dst : Option Nat} {g : AGuard} (ha : args.map V.val = ds) : stepV P ⟨dst, .call f args, g⟩ V fun d' δ' => d' = r ∧ δ' = [] := by
  intro s hs
  rw [ha]
  exact hp.call rfl ⟨rfl, rfl⟩

theorem Sub.hp {xs : List Opd} (hs : Sub s V xs) {b ver : Nat} {cs : List D} (h : V.hp b = ⟨ver, .cells cs⟩) : s.hp b = ⟨ver, .cells cs⟩ := by
  have h' : V.blk b = ⟨ver, .cells cs⟩ := h
  rcases hs.blk b with h1 | h1
  · rw [h'] at h1; cases h1
  · rw [← h', h1]; rfl

theorem fz_drawn {ver len : Nat} {l : List Int} {t : Nat} (hs : Sub s V []) (hb : V.lc[t]? = some ⟨ver, .cells (l.map (.int .i64))⟩) (hl : len = l.length) : Wk (FX (V.n + V.lc.length) s.hp) (.ref 1 (V.n + t) ver 0 len) (.lst (l.map (.int .i64))) := by
  have ht : t < V.lc.length := (List.getElem?_eq_some_iff.1 hb).1
  refine fz_ints (by omega) (hs.hp ?_) hl
  show mrg V.n V.h V.lc (V.n + t) = _
  rw [mrg_loc]; simp [List.getD, hb]

theorem Pure.drawF {f : FuncId} {ds : List D} {r : D} (hp : Pure P f ds r) (hr : Sc r) {args : List Opd} {dst : Option Nat} {g : AGuard}
    (ha : ∀ s, Sub s V [] → WkL (FX (V.n + V.lc.length) s.hp) (args.map V.val) ds) : stepV P ⟨dst, .call f args, g⟩ V fun d' δ' => d' = r ∧ δ' = [] := by
  intro s hs
  exact hp.callF hr rfl (ha s hs) ⟨rfl, rfl⟩

theorem Fresh.draw {f : FuncId} {ds : List D} {sz m : Nat} {out : List D} (ha : Fresh P f ds sz out m) (hlow : ∀ c ∈ out, Low 0 c) {args : List Opd} {t : Nat} {g : AGuard} (hargs : args.map V.val = ds)
    (ht : t < V.lc.length) (ho : (V.lc.getD t blk0).con.isOpq = false) :
    stepV P ⟨some t, .call f args, g⟩ V fun d' δ' => d' = .ref sz (V.n + t) (lver V.lc t) 0 m ∧ δ' = [(V.n + t, ⟨lver V.lc t, .cells out⟩)] := by
  intro s hs
  rw [hargs]
  have e1 : V.blk (V.n + t) = V.lc.getD t blk0 := mrg_loc ..
  have e2 : s.blk (V.n + t) = s.lc.getD t blk0 := by rw [hs.n]; exact mrg_loc ..
  have e3 : V.lc.getD t blk0 = s.lc.getD t blk0 := by
    rcases hs.blk (V.n + t) with h | h
    · rw [e1] at h; rw [h] at ho; cases ho
    · rw [e1, e2] at h; exact h
  have e4 : lver V.lc t = lver s.lc t := by unfold lver; rw [e3]
  rw [hs.n, hs.len, e4]
  cases s with
  | mk n sl h lc => exact ha.call hlow rfl rfl (by rw [← hs.len]; exact ht) (by rw [← e3]; exact ho) ⟨rfl, rfl⟩

end Abs
end Go.Proofs.Ytokdeeagghhliaa

namespace Go.Proofs.Ytokdeeagghhliaa
namespace Abs
set_option linter.unusedVariables false
set_option linter.unusedSimpArgs false
section
variable {P : Program} {n : Nat} {sl : List D} {h : Heap} {lc : List Blk} {dc : List (List Nat)} {k : Nat}

theorem y_q_mov (dst : Option Nat) (g : AGuard) (ss es : List Nat) (K : D → Chg → Prop) (x : Opd) : stepQS P dc k ⟨⟨dst, .mov x, g⟩, ss, es⟩ (St.mk n sl h lc) K = run (St.hide (St.mk n sl h lc) (hidOf n dc ⟨⟨dst, .mov x, g⟩, ss, es⟩)) dst (fun d δ => covB n dc k ⟨⟨dst, .mov x, g⟩, ss, es⟩ δ ∧ K d δ) (.mov x) := by rw [stepQS_eq]; rfl
theorem y_q_pick (dst : Option Nat) (g : AGuard) (ss es : List Nat) (K : D → Chg → Prop) (c a b : Opd) : stepQS P dc k ⟨⟨dst, .pick c a b, g⟩, ss, es⟩ (St.mk n sl h lc) K = run (St.hide (St.mk n sl h lc) (hidOf n dc ⟨⟨dst, .pick c a b, g⟩, ss, es⟩)) dst (fun d δ => covB n dc k ⟨⟨dst, .pick c a b, g⟩, ss, es⟩ δ ∧ K d δ) (.pick c a b) := by rw [stepQS_eq]; rfl
theorem y_q_alloc (dst : Option Nat) (g : AGuard) (ss es : List Nat) (K : D → Chg → Prop) (z : List D) : stepQS P dc k ⟨⟨dst, .alloc z, g⟩, ss, es⟩ (St.mk n sl h lc) K = run (St.hide (St.mk n sl h lc) (hidOf n dc ⟨⟨dst, .alloc z, g⟩, ss, es⟩)) dst (fun d δ => covB n dc k ⟨⟨dst, .alloc z, g⟩, ss, es⟩ δ ∧ K d δ) (.alloc z) := by rw [stepQS_eq]; rfl
theorem y_q_box (dst : Option Nat) (g : AGuard) (ss es : List Nat) (K : D → Chg → Prop) (x : Opd) : stepQS P dc k ⟨⟨dst, .box x, g⟩, ss, es⟩ (St.mk n sl h lc) K = run (St.hide (St.mk n sl h lc) (hidOf n dc ⟨⟨dst, .box x, g⟩, ss, es⟩)) dst (fun d δ => covB n dc k ⟨⟨dst, .box x, g⟩, ss, es⟩ δ ∧ K d δ) (.box x) := by rw [stepQS_eq]; rfl
theorem y_q_build (dst : Option Nat) (g : AGuard) (ss es : List Nat) (K : D → Chg → Prop) (z : List D) (ps : List (Nat × Nat × Opd)) : stepQS P dc k ⟨⟨dst, .build z ps, g⟩, ss, es⟩ (St.mk n sl h lc) K = run (St.hide (St.mk n sl h lc) (hidOf n dc ⟨⟨dst, .build z ps, g⟩, ss, es⟩)) dst (fun d δ => covB n dc k ⟨⟨dst, .build z ps, g⟩, ss, es⟩ δ ∧ K d δ) (.build z ps) := by rw [stepQS_eq]; rfl
theorem y_q_buildSlice (dst : Option Nat) (g : AGuard) (ss es : List Nat) (K : D → Chg → Prop) (sz : Nat) (z : List D) (len : Nat) (ps : List (Nat × Nat × Opd)) : stepQS P dc k ⟨⟨dst, .buildSlice sz z len ps, g⟩, ss, es⟩ (St.mk n sl h lc) K = run (St.hide (St.mk n sl h lc) (hidOf n dc ⟨⟨dst, .buildSlice sz z len ps, g⟩, ss, es⟩)) dst (fun d δ => covB n dc k ⟨⟨dst, .buildSlice sz z len ps, g⟩, ss, es⟩ δ ∧ K d δ) (.buildSlice sz z len ps) := by rw [stepQS_eq]; rfl
theorem y_q_load (dst : Option Nat) (g : AGuard) (ss es : List Nat) (K : D → Chg → Prop) (ag : Bool) (k' : Nat) (a : Opd) : stepQS P dc k ⟨⟨dst, .load ag k' a, g⟩, ss, es⟩ (St.mk n sl h lc) K = run (St.hide (St.mk n sl h lc) (hidOf n dc ⟨⟨dst, .load ag k' a, g⟩, ss, es⟩)) dst (fun d δ => covB n dc k ⟨⟨dst, .load ag k' a, g⟩, ss, es⟩ δ ∧ K d δ) (.load ag k' a) := by rw [stepQS_eq]; rfl
theorem y_q_store (dst : Option Nat) (g : AGuard) (ss es : List Nat) (K : D → Chg → Prop) (k' : Nat) (a x : Opd) : stepQS P dc k ⟨⟨dst, .store k' a x, g⟩, ss, es⟩ (St.mk n sl h lc) K = run (St.hide (St.mk n sl h lc) (hidOf n dc ⟨⟨dst, .store k' a x, g⟩, ss, es⟩)) dst (fun d δ => covB n dc k ⟨⟨dst, .store k' a x, g⟩, ss, es⟩ δ ∧ K d δ) (.store k' a x) := by rw [stepQS_eq]; rfl
theorem y_q_bin (dst : Option Nat) (g : AGuard) (ss es : List Nat) (K : D → Chg → Prop) (b : BinOp) (x y : Opd) : stepQS P dc k ⟨⟨dst, .bin b x y, g⟩, ss, es⟩ (St.mk n sl h lc) K = run (St.hide (St.mk n sl h lc) (hidOf n dc ⟨⟨dst, .bin b x y, g⟩, ss, es⟩)) dst (fun d δ => covB n dc k ⟨⟨dst, .bin b x y, g⟩, ss, es⟩ δ ∧ K d δ) (.bin b x y) := by rw [stepQS_eq]; rfl
theorem y_q_eqb (dst : Option Nat) (g : AGuard) (ss es : List Nat) (K : D → Chg → Prop) (ng : Bool) (x y : Opd) : stepQS P dc k ⟨⟨dst, .eqb ng x y, g⟩, ss, es⟩ (St.mk n sl h lc) K = run (St.hide (St.mk n sl h lc) (hidOf n dc ⟨⟨dst, .eqb ng x y, g⟩, ss, es⟩)) dst (fun d δ => covB n dc k ⟨⟨dst, .eqb ng x y, g⟩, ss, es⟩ δ ∧ K d δ) (.eqb ng x y) := by rw [stepQS_eq]; rfl
theorem y_q_nileq (dst : Option Nat) (g : AGuard) (ss es : List Nat) (K : D → Chg → Prop) (k' : Nat) (ng : Bool) (x : Opd) : stepQS P dc k ⟨⟨dst, .nileq k' ng x, g⟩, ss, es⟩ (St.mk n sl h lc) K = run (St.hide (St.mk n sl h lc) (hidOf n dc ⟨⟨dst, .nileq k' ng x, g⟩, ss, es⟩)) dst (fun d δ => covB n dc k ⟨⟨dst, .nileq k' ng x, g⟩, ss, es⟩ δ ∧ K d δ) (.nileq k' ng x) := by rw [stepQS_eq]; rfl
theorem y_q_eqs (dst : Option Nat) (g : AGuard) (ss es : List Nat) (K : D → Chg → Prop) (ng : Bool) (ks : List Nat) (x y : Opd) : stepQS P dc k ⟨⟨dst, .eqs ng ks x y, g⟩, ss, es⟩ (St.mk n sl h lc) K = run (St.hide (St.mk n sl h lc) (hidOf n dc ⟨⟨dst, .eqs ng ks x y, g⟩, ss, es⟩)) dst (fun d δ => covB n dc k ⟨⟨dst, .eqs ng ks x y, g⟩, ss, es⟩ δ ∧ K d δ) (.eqs ng ks x y) := by rw [stepQS_eq]; rfl
theorem y_q_un (dst : Option Nat) (g : AGuard) (ss es : List Nat) (K : D → Chg → Prop) (u : UnOp) (x : Opd) : stepQS P dc k ⟨⟨dst, .un u x, g⟩, ss, es⟩ (St.mk n sl h lc) K = run (St.hide (St.mk n sl h lc) (hidOf n dc ⟨⟨dst, .un u x, g⟩, ss, es⟩)) dst (fun d δ => covB n dc k ⟨⟨dst, .un u x, g⟩, ss, es⟩ δ ∧ K d δ) (.un u x) := by rw [stepQS_eq]; rfl
theorem y_q_conv (dst : Option Nat) (g : AGuard) (ss es : List Nat) (K : D → Chg → Prop) (k' : IntKind) (x : Opd) : stepQS P dc k ⟨⟨dst, .conv k' x, g⟩, ss, es⟩ (St.mk n sl h lc) K = run (St.hide (St.mk n sl h lc) (hidOf n dc ⟨⟨dst, .conv k' x, g⟩, ss, es⟩)) dst (fun d δ => covB n dc k ⟨⟨dst, .conv k' x, g⟩, ss, es⟩ δ ∧ K d δ) (.conv k' x) := by rw [stepQS_eq]; rfl
theorem y_q_nilck (dst : Option Nat) (g : AGuard) (ss es : List Nat) (K : D → Chg → Prop) (x : Opd) : stepQS P dc k ⟨⟨dst, .nilck x, g⟩, ss, es⟩ (St.mk n sl h lc) K = run (St.hide (St.mk n sl h lc) (hidOf n dc ⟨⟨dst, .nilck x, g⟩, ss, es⟩)) dst (fun d δ => covB n dc k ⟨⟨dst, .nilck x, g⟩, ss, es⟩ δ ∧ K d δ) (.nilck x) := by rw [stepQS_eq]; rfl
theorem y_q_mkfn (dst : Option Nat) (g : AGuard) (ss es : List Nat) (K : D → Chg → Prop) (f : FuncId) (cs : List Opd) : stepQS P dc k ⟨⟨dst, .mkfn f cs, g⟩, ss, es⟩ (St.mk n sl h lc) K = run (St.hide (St.mk n sl h lc) (hidOf n dc ⟨⟨dst, .mkfn f cs, g⟩, ss, es⟩)) dst (fun d δ => covB n dc k ⟨⟨dst, .mkfn f cs, g⟩, ss, es⟩ δ ∧ K d δ) (.mkfn f cs) := by rw [stepQS_eq]; rfl
theorem y_q_mkslice (dst : Option Nat) (g : AGuard) (ss es : List Nat) (K : D → Chg → Prop) (sz by' : Nat) (z : List D) (l c : Opd) : stepQS P dc k ⟨⟨dst, .mkslice sz by' z l c, g⟩, ss, es⟩ (St.mk n sl h lc) K = run (St.hide (St.mk n sl h lc) (hidOf n dc ⟨⟨dst, .mkslice sz by' z l c, g⟩, ss, es⟩)) dst (fun d δ => covB n dc k ⟨⟨dst, .mkslice sz by' z l c, g⟩, ss, es⟩ δ ∧ K d δ) (.mkslice sz by' z l c) := by rw [stepQS_eq]; rfl
theorem y_q_slice (dst : Option Nat) (g : AGuard) (ss es : List Nat) (K : D → Chg → Prop) (sz : Nat) (x : Opd) (lo hi : Option Opd) : stepQS P dc k ⟨⟨dst, .slice sz x lo hi, g⟩, ss, es⟩ (St.mk n sl h lc) K = run (St.hide (St.mk n sl h lc) (hidOf n dc ⟨⟨dst, .slice sz x lo hi, g⟩, ss, es⟩)) dst (fun d δ => covB n dc k ⟨⟨dst, .slice sz x lo hi, g⟩, ss, es⟩ δ ∧ K d δ) (.slice sz x lo hi) := by rw [stepQS_eq]; rfl
theorem y_q_slicez (dst : Option Nat) (g : AGuard) (ss es : List Nat) (K : D → Chg → Prop) (x : Opd) : stepQS P dc k ⟨⟨dst, .slicez x, g⟩, ss, es⟩ (St.mk n sl h lc) K = run (St.hide (St.mk n sl h lc) (hidOf n dc ⟨⟨dst, .slicez x, g⟩, ss, es⟩)) dst (fun d δ => covB n dc k ⟨⟨dst, .slicez x, g⟩, ss, es⟩ δ ∧ K d δ) (.slicez x) := by rw [stepQS_eq]; rfl
theorem y_q_slicea (dst : Option Nat) (g : AGuard) (ss es : List Nat) (K : D → Chg → Prop) (m sz : Nat) (x : Opd) (lo hi : Option Opd) : stepQS P dc k ⟨⟨dst, .slicea m sz x lo hi, g⟩, ss, es⟩ (St.mk n sl h lc) K = run (St.hide (St.mk n sl h lc) (hidOf n dc ⟨⟨dst, .slicea m sz x lo hi, g⟩, ss, es⟩)) dst (fun d δ => covB n dc k ⟨⟨dst, .slicea m sz x lo hi, g⟩, ss, es⟩ δ ∧ K d δ) (.slicea m sz x lo hi) := by rw [stepQS_eq]; rfl
theorem y_q_fieldAddr (dst : Option Nat) (g : AGuard) (ss es : List Nat) (K : D → Chg → Prop) (off : Nat) (x : Opd) : stepQS P dc k ⟨⟨dst, .fieldAddr off x, g⟩, ss, es⟩ (St.mk n sl h lc) K = run (St.hide (St.mk n sl h lc) (hidOf n dc ⟨⟨dst, .fieldAddr off x, g⟩, ss, es⟩)) dst (fun d δ => covB n dc k ⟨⟨dst, .fieldAddr off x, g⟩, ss, es⟩ δ ∧ K d δ) (.fieldAddr off x) := by rw [stepQS_eq]; rfl
theorem y_q_field (dst : Option Nat) (g : AGuard) (ss es : List Nat) (K : D → Chg → Prop) (ag : Bool) (off k' : Nat) (x : Opd) : stepQS P dc k ⟨⟨dst, .field ag off k' x, g⟩, ss, es⟩ (St.mk n sl h lc) K = run (St.hide (St.mk n sl h lc) (hidOf n dc ⟨⟨dst, .field ag off k' x, g⟩, ss, es⟩)) dst (fun d δ => covB n dc k ⟨⟨dst, .field ag off k' x, g⟩, ss, es⟩ δ ∧ K d δ) (.field ag off k' x) := by rw [stepQS_eq]; rfl
theorem y_q_idxS (dst : Option Nat) (g : AGuard) (ss es : List Nat) (K : D → Chg → Prop) (sz : Nat) (x i : Opd) : stepQS P dc k ⟨⟨dst, .idxS sz x i, g⟩, ss, es⟩ (St.mk n sl h lc) K = run (St.hide (St.mk n sl h lc) (hidOf n dc ⟨⟨dst, .idxS sz x i, g⟩, ss, es⟩)) dst (fun d δ => covB n dc k ⟨⟨dst, .idxS sz x i, g⟩, ss, es⟩ δ ∧ K d δ) (.idxS sz x i) := by rw [stepQS_eq]; rfl
theorem y_q_idxA (dst : Option Nat) (g : AGuard) (ss es : List Nat) (K : D → Chg → Prop) (m sz : Nat) (x i : Opd) : stepQS P dc k ⟨⟨dst, .idxA m sz x i, g⟩, ss, es⟩ (St.mk n sl h lc) K = run (St.hide (St.mk n sl h lc) (hidOf n dc ⟨⟨dst, .idxA m sz x i, g⟩, ss, es⟩)) dst (fun d δ => covB n dc k ⟨⟨dst, .idxA m sz x i, g⟩, ss, es⟩ δ ∧ K d δ) (.idxA m sz x i) := by rw [stepQS_eq]; rfl
theorem y_q_idx (dst : Option Nat) (g : AGuard) (ss es : List Nat) (K : D → Chg → Prop) (ag : Bool) (m sz : Nat) (x i : Opd) : stepQS P dc k ⟨⟨dst, .idx ag m sz x i, g⟩, ss, es⟩ (St.mk n sl h lc) K = run (St.hide (St.mk n sl h lc) (hidOf n dc ⟨⟨dst, .idx ag m sz x i, g⟩, ss, es⟩)) dst (fun d δ => covB n dc k ⟨⟨dst, .idx ag m sz x i, g⟩, ss, es⟩ δ ∧ K d δ) (.idx ag m sz x i) := by rw [stepQS_eq]; rfl
theorem y_q_len (dst : Option Nat) (g : AGuard) (ss es : List Nat) (K : D → Chg → Prop) (x : Opd) : stepQS P dc k ⟨⟨dst, .len x, g⟩, ss, es⟩ (St.mk n sl h lc) K = run (St.hide (St.mk n sl h lc) (hidOf n dc ⟨⟨dst, .len x, g⟩, ss, es⟩)) dst (fun d δ => covB n dc k ⟨⟨dst, .len x, g⟩, ss, es⟩ δ ∧ K d δ) (.len x) := by rw [stepQS_eq]; rfl
theorem y_q_slen (dst : Option Nat) (g : AGuard) (ss es : List Nat) (K : D → Chg → Prop) (x : Opd) : stepQS P dc k ⟨⟨dst, .slen x, g⟩, ss, es⟩ (St.mk n sl h lc) K = run (St.hide (St.mk n sl h lc) (hidOf n dc ⟨⟨dst, .slen x, g⟩, ss, es⟩)) dst (fun d δ => covB n dc k ⟨⟨dst, .slen x, g⟩, ss, es⟩ δ ∧ K d δ) (.slen x) := by rw [stepQS_eq]; rfl
theorem y_q_append (dst : Option Nat) (g : AGuard) (ss es : List Nat) (K : D → Chg → Prop) (sz by' : Nat) (x y : Opd) : stepQS P dc k ⟨⟨dst, .append sz by' x y, g⟩, ss, es⟩ (St.mk n sl h lc) K = run (St.hide (St.mk n sl h lc) (hidOf n dc ⟨⟨dst, .append sz by' x y, g⟩, ss, es⟩)) dst (fun d δ => covB n dc k ⟨⟨dst, .append sz by' x y, g⟩, ss, es⟩ δ ∧ K d δ) (.append sz by' x y) := by rw [stepQS_eq]; rfl
theorem y_q_appendz (dst : Option Nat) (g : AGuard) (ss es : List Nat) (K : D → Chg → Prop) (sz by' : Nat) (z : List D) (x m : Opd) : stepQS P dc k ⟨⟨dst, .appendz sz by' z x m, g⟩, ss, es⟩ (St.mk n sl h lc) K = run (St.hide (St.mk n sl h lc) (hidOf n dc ⟨⟨dst, .appendz sz by' z x m, g⟩, ss, es⟩)) dst (fun d δ => covB n dc k ⟨⟨dst, .appendz sz by' z x m, g⟩, ss, es⟩ δ ∧ K d δ) (.appendz sz by' z x m) := by rw [stepQS_eq]; rfl
theorem y_q_capz (dst : Option Nat) (g : AGuard) (ss es : List Nat) (K : D → Chg → Prop) (x : Opd) : stepQS P dc k ⟨⟨dst, .capz x, g⟩, ss, es⟩ (St.mk n sl h lc) K = run (St.hide (St.mk n sl h lc) (hidOf n dc ⟨⟨dst, .capz x, g⟩, ss, es⟩)) dst (fun d δ => covB n dc k ⟨⟨dst, .capz x, g⟩, ss, es⟩ δ ∧ K d δ) (.capz x) := by rw [stepQS_eq]; rfl
theorem y_q_minmax (dst : Option Nat) (g : AGuard) (ss es : List Nat) (K : D → Chg → Prop) (mx : Bool) (xs : List Opd) : stepQS P dc k ⟨⟨dst, .minmax mx xs, g⟩, ss, es⟩ (St.mk n sl h lc) K = run (St.hide (St.mk n sl h lc) (hidOf n dc ⟨⟨dst, .minmax mx xs, g⟩, ss, es⟩)) dst (fun d δ => covB n dc k ⟨⟨dst, .minmax mx xs, g⟩, ss, es⟩ δ ∧ K d δ) (.minmax mx xs) := by rw [stepQS_eq]; rfl
theorem y_q_extract (dst : Option Nat) (g : AGuard) (ss es : List Nat) (K : D → Chg → Prop) (x : Opd) (i : Nat) : stepQS P dc k ⟨⟨dst, .extract x i, g⟩, ss, es⟩ (St.mk n sl h lc) K = run (St.hide (St.mk n sl h lc) (hidOf n dc ⟨⟨dst, .extract x i, g⟩, ss, es⟩)) dst (fun d δ => covB n dc k ⟨⟨dst, .extract x i, g⟩, ss, es⟩ δ ∧ K d δ) (.extract x i) := by rw [stepQS_eq]; rfl
theorem y_q_mkmap (dst : Option Nat) (g : AGuard) (ss es : List Nat) (K : D → Chg → Prop)  : stepQS P dc k ⟨⟨dst, .mkmap, g⟩, ss, es⟩ (St.mk n sl h lc) K = run (St.hide (St.mk n sl h lc) (hidOf n dc ⟨⟨dst, .mkmap, g⟩, ss, es⟩)) dst (fun d δ => covB n dc k ⟨⟨dst, .mkmap, g⟩, ss, es⟩ δ ∧ K d δ) (.mkmap) := by rw [stepQS_eq]; rfl
theorem y_q_lookup (dst : Option Nat) (g : AGuard) (ss es : List Nat) (K : D → Chg → Prop) (q : Nat) (z : D) (x i : Opd) : stepQS P dc k ⟨⟨dst, .lookup q z x i, g⟩, ss, es⟩ (St.mk n sl h lc) K = run (St.hide (St.mk n sl h lc) (hidOf n dc ⟨⟨dst, .lookup q z x i, g⟩, ss, es⟩)) dst (fun d δ => covB n dc k ⟨⟨dst, .lookup q z x i, g⟩, ss, es⟩ δ ∧ K d δ) (.lookup q z x i) := by rw [stepQS_eq]; rfl
theorem y_q_lookv (dst : Option Nat) (g : AGuard) (ss es : List Nat) (K : D → Chg → Prop) (q : Nat) (z : D) (x i : Opd) : stepQS P dc k ⟨⟨dst, .lookv q z x i, g⟩, ss, es⟩ (St.mk n sl h lc) K = run (St.hide (St.mk n sl h lc) (hidOf n dc ⟨⟨dst, .lookv q z x i, g⟩, ss, es⟩)) dst (fun d δ => covB n dc k ⟨⟨dst, .lookv q z x i, g⟩, ss, es⟩ δ ∧ K d δ) (.lookv q z x i) := by rw [stepQS_eq]; rfl
theorem y_q_mupd (dst : Option Nat) (g : AGuard) (ss es : List Nat) (K : D → Chg → Prop) (q : Nat) (m k' x : Opd) : stepQS P dc k ⟨⟨dst, .mupd q m k' x, g⟩, ss, es⟩ (St.mk n sl h lc) K = run (St.hide (St.mk n sl h lc) (hidOf n dc ⟨⟨dst, .mupd q m k' x, g⟩, ss, es⟩)) dst (fun d δ => covB n dc k ⟨⟨dst, .mupd q m k' x, g⟩, ss, es⟩ δ ∧ K d δ) (.mupd q m k' x) := by rw [stepQS_eq]; rfl
end

end Abs
end Go.Proofs.Ytokdeeagghhliaa

namespace Go.Proofs.Ytokdeeagghhliaa
namespace Abs
set_option linter.unusedVariables false

def dropH (H : Heap) (Z : List Nat) : Heap := fun b => if b ∈ Z then ⟨(H b).ver + 1, .none⟩ else H b
def dropM (M : Ctx) (Z : List Nat) : Ctx := fun b => if b ∈ Z then ⟨(M b).ver + 1, none, false⟩ else M b
/-- the change that drops blocks -/
def dropC (H : Heap) (Z : List Nat) : Chg := Z.map fun b => (b, ⟨(H b).ver + 1, .none⟩)

theorem app_dropC (H0 : Heap) : ∀ (Z : List Nat) (H : Heap), (∀ b, H b = H0 b ∨ H b = ⟨(H0 b).ver + 1, .none⟩) → app H (dropC H0 Z) = fun b => if b ∈ Z then ⟨(H0 b).ver + 1, .none⟩ else H b
  | [], H, _ => by funext b; simp [dropC, app]
  | z :: Z, H, hH => by
    have : app H (dropC H0 (z :: Z)) = app (upd H z ⟨(H0 z).ver + 1, .none⟩) (dropC H0 Z) := rfl
    rw [this, app_dropC H0 Z _ fun b => by
      by_cases e : b = z
      · subst e; simp [upd]
      · simp [upd, e]; exact hH b]
    funext b
    by_cases e : b = z
    · subst e; simp [upd]
    · simp [upd, e]

theorem app_drop (H : Heap) (Z : List Nat) : app H (dropC H Z) = dropH H Z := app_dropC H Z H fun b => .inl rfl

/-- a value in which what points into the blocks Z is data -/
inductive Fz (H : Heap) (Z : List Nat) : D → D → Prop
  | same (d : D) : Fz H Z d d
  | top (d : D) : Fz H Z d .top
  | nilsLst : Fz H Z .nils (.lst [])
  | empLst : Fz H Z .emp (.lst [])
  | agg (cs cs' : List D) (hl : cs'.length = cs.length) (h : ∀ (i : Nat) (c c' : D), cs[i]? = some c → cs'[i]? = some c' → Fz H Z c c') : Fz H Z (.agg cs) (.agg cs')
  | frz (sz b ver off len : Nat) (cs l : List D) (hz : b ∈ Z) (hb : H b = ⟨ver, .cells cs⟩) (hlen : l.length = len) (hfit : off + len * sz ≤ cs.length)
      (hsz : ∀ d ∈ l, d.cells.length = sz) (h : ∀ (i : Nat) (d : D), l[i]? = some d → ∀ (j : Nat) (e : D), d.cells[j]? = some e → Fz H Z (nth cs (off + i * sz + j)) e) : Fz H Z (.ref sz b ver off len) (.lst l)

def FzL (H : Heap) (Z : List Nat) : List D → List D → Prop
  | [], [] => True
  | d :: ds, d' :: ds' => Fz H Z d d' ∧ FzL H Z ds ds'
  | _, _ => False

theorem FzL.len {H : Heap} {Z : List Nat} : ∀ {ds ds' : List D}, FzL H Z ds ds' → ds'.length = ds.length
  | [], [], _ => rfl
  | [], _ :: _, h => h.elim
  | _ :: _, [], h => h.elim
  | d :: ds, d' :: ds', h => by simp [FzL.len h.2]
theorem FzL.get {H : Heap} {Z : List Nat} : ∀ {ds ds' : List D}, FzL H Z ds ds' → ∀ (i : Nat) (d d' : D), ds[i]? = some d → ds'[i]? = some d' → Fz H Z d d'
  | [], [], _, i, d, d', h1, _ => by simp at h1
  | [], _ :: _, h, _, _, _, _, _ => h.elim
  | _ :: _, [], h, _, _, _, _, _ => h.elim
  | d :: ds, d' :: ds', h, i, e, e', h1, h2 => by
    cases i with
    | zero => simp at h1 h2; subst h1; subst h2; exact h.1
    | succ i => exact FzL.get h.2 i e e' (by simpa using h1) (by simpa using h2)
theorem FzL.refl {H : Heap} {Z : List Nat} : ∀ (ds : List D), FzL H Z ds ds
  | [] => trivial
  | d :: ds => ⟨.same d, FzL.refl ds⟩

variable {w : World} {M : Ctx} {H : Heap} {Z : List Nat}

theorem dropM_occ {c : Nat} (h : Occ (dropM M Z) c) : ∃ b base, b ∉ Z ∧ (M b).loc = some (.mem c base) := by
  obtain ⟨b, base, hl⟩ := h
  unfold dropM at hl
  split at hl
  · cases hl
  · rename_i hz; exact ⟨b, base, hz, hl⟩

theorem drop_step (hs : Sim w M H) (hZ : ∀ b ∈ Z, (H b).con.isOpq = false) : Step w M w (dropM M Z) where
  size := Nat.le_refl _
  ver b := by unfold dropM; split <;> simp
  loc b e := by
    unfold dropM at e ⊢
    split
    · exact .inl rfl
    · exact .inr rfl
  occ c _ h := by obtain ⟨b, base, _, hl⟩ := dropM_occ h; exact ⟨b, base, hl⟩
  live c _ h := by
    obtain ⟨b, base, hl, ho⟩ := h
    unfold dropM at hl ho
    split at hl
    · cases hl
    · rename_i hz; rw [if_neg hz] at ho; exact ⟨b, base, hl, ho⟩
  imm c _ _ := rfl
  shape c _ C' e' fr' hh := ⟨C', e', fr', hh, rfl⟩
  known := hs.known
  opq b ho := by
    unfold dropM
    split
    · rename_i hz; rw [hs.opq, hZ b hz] at ho; cases ho
    · rfl
  same := .refl w

theorem drop_sim (hs : Sim w M H) (hZ : ∀ b ∈ Z, (H b).con.isOpq = false) : Sim w (dropM M Z) (dropH H Z) where
  ver b := by unfold dropM dropH; split <;> simp [hs.ver]
  con b := by
    unfold dropM dropH
    split
    · rfl
    · exact (hs.con b).step (drop_step hs hZ) fun c base _ => rfl
  inj b b' c base base' h h' := by
    unfold dropM at h h'
    split at h
    · cases h
    · split at h'
      · cases h'
      · exact hs.inj b b' c base base' h h'
  opq b := by
    unfold dropM dropH
    split
    · rfl
    · exact hs.opq b

theorem fz_rep (hs : Sim w M H) (hZ : ∀ b ∈ Z, (H b).con.isOpq = false) {d d' : D} (hf : Fz H Z d d') : ∀ {v : Value}, Rep w M d v → Rep w (dropM M Z) d' v := by
  induction hf with
  | same d => intro v h; exact h.step (drop_step hs hZ)
  | top d => intro v h; exact .top v
  | nilsLst => intro v h; cases h; exact .lst0 _ _
  | empLst => intro v h; cases h; exact .lst0 _ _
  | agg cs cs' hl _ ih =>
    intro v h
    cases h with
    | agg _ vs hsz h =>
      refine .agg cs' vs (by omega) fun i c v hc hv => ?_
      have hi : i < cs.length := by rw [← hl]; exact (List.getElem?_eq_some_iff.1 hc).1
      exact ih i _ c (nth_get hi) hc (h i _ v (nth_get hi) hv)
  | frz sz b ver off len cs l hz hb hlen hfit hsz _ ih =>
    intro v hr
    have hM1 := hs.ver b
    have hM2 := hs.con b
    rw [hb] at hM1 hM2
    cases hr with
    | ref _ _ _ _ _ _ hle hp h1 =>
      have hp' := hp hM1
      have hempty : ∀ a, v = .slice a 0 0 → len = 0 → Rep w (dropM M Z) (.lst l) v := fun a hv h0 => by
        subst hv; subst h0
        have : l = [] := List.eq_nil_of_length_eq_zero hlen
        subst this
        exact .lst0 _ _
      rcases hM2 with ⟨a, hloc, _⟩ | ⟨c, base, C, e, hloc, hc, hszC, hrep⟩
      · rw [hloc] at hp'; exact hempty a hp'.2.2 hp'.2.1
      · rw [hloc] at hp'
        rcases hp' with ⟨h0, a, hv⟩ | ⟨cap, rfl, hcap, hroom⟩
        · exact hempty a hv h0
        · subst hlen
          have hnl : ¬ Occ (dropM M Z) c := by
            intro ho
            obtain ⟨b', base', hb', hl'⟩ := dropM_occ ho
            have := hs.inj b' b c base' base hl' hloc
            subst this
            exact hb' hz
          have hcl : c < w.heap.size := (Array.getElem?_eq_some_iff.1 hc).1
          have hpos : ∀ (i : Nat) (d : D), l[i]? = some d → ∀ (j : Nat) (e : D), d.cells[j]? = some e → off + i * sz + j < cs.length ∧ off + i * sz + j = off + (i * sz + j) := fun i d hd j e he => by
            have hi : i < l.length := (List.getElem?_eq_some_iff.1 hd).1
            have hj : j < sz := by rw [← hsz d (List.mem_of_getElem? hd)]; exact (List.getElem?_eq_some_iff.1 he).1
            have hle : (i + 1) * sz ≤ l.length * sz := Nat.mul_le_mul_right _ hi
            rw [Nat.add_mul] at hle
            omega
          refine .lst l ⟨c, base + off, none⟩ cap sz (fun i j => C.getD (base + (off + i * sz + j)) undef) hcap rfl hcl hnl hsz (fun i d hd j e he => ?_) (fun i d hd j e he => ?_)
          · have := hpos i d hd j e he
            rw [Addr.lit_add]
            have hlt : base + (off + i * sz + j) < C.size := by omega
            simp only [World.cell?, hc]
            rw [show base + off + (i * sz + j) = base + (off + i * sz + j) by omega]
            simp [hlt]
          · obtain ⟨u, hu1, hu2⟩ := hrep _ _ (nth_get (hpos i d hd j e he).1)
            have : C.getD (base + (off + i * sz + j)) undef = u := by
              rw [Array.getD_eq_getD_getElem?, hu1]; rfl
            rw [this]
            exact ih i d hd j e he hu2

/-- the call, with the blocks dropped -/
theorem ACalls.drop {P : Program} {f : FuncId} {ds ds' : List D} {N : Nat} {R : D → Heap → List Blk → Prop} (hZ : ∀ b ∈ Z, b < N ∧ (H b).con.isOpq = false) (hH : mrg N H [] = H) (hf : FzL H Z ds' ds)
    (h : ACalls P f ds N (dropH H Z) R) : ACalls P f ds' N H R := by
  refine ⟨h.1, fun w M vs hsim hreps => ?_⟩
  rw [hH] at hsim
  have hZ' : ∀ b ∈ Z, (H b).con.isOpq = false := fun b hb => (hZ b hb).2
  have hm : mrg N (dropH H Z) [] = dropH H Z := by
    funext b
    by_cases hb : b < N
    · simp [mrg, hb]
    · have hz : b ∉ Z := fun hz => hb (hZ b hz).1
      have e : H b = blk0 := by
        rw [← hH]; simp [mrg, hb]
      simp [mrg, hb, dropH, hz, e]
  have hst := drop_step hsim hZ'
  refine (h.2 w (dropM M Z) vs (by rw [hm]; exact drop_sim hsim hZ') ⟨by rw [hreps.size, hf.len], fun i d v hd hv => ?_⟩).mono ?_
  · have hi : i < ds'.length := by rw [← hf.len]; exact (List.getElem?_eq_some_iff.1 hd).1
    exact fz_rep hsim hZ' (hf.get i _ d (nth_get hi) hd) (hreps.rep i _ v (nth_get hi) hv)
  · rintro e w' ⟨v, d, h', x, M', he, hR, hk, hS, hrep, hg⟩
    exact ⟨v, d, h', x, M', he, hR, hk, hS, hrep, (hst.grows N).trans hg⟩

theorem Pure.callZ {P : Program} {f : FuncId} {ds ds' : List D} {r : D} (hp : Pure P f ds r) {n : Nat} {sl : List D} {h : Heap} {lc : List Blk} {N : Nat} {H : Heap} {dst : Option Nat} {K : D → Chg → Prop} (ts : List Nat)
    (hN : N = n + lc.length) (hH : H = mrg n h lc) (hZ : ∀ t ∈ ts, t < lc.length ∧ (lc.getD t blk0).con.isOpq = false) (hf : FzL (mrg n h lc) (ts.map (n + ·)) ds' ds)
    (hK : K r (ts.map fun t => (n + t, ⟨lver lc t, .none⟩))) : ACalls P f ds' N H (callK (St.mk n sl h lc) dst K) := by
  subst hN; subst hH
  refine ACalls.drop (Z := ts.map (n + ·)) (fun b hb => ?_) (mrg_nil n h lc) hf ((hp _ _).mono fun d h' x ⟨h1, h2, h3⟩ => .inl ⟨ts.map fun t => (n + t, ⟨lver lc t, .none⟩), ?_, h2, ?_, by rw [h3]; exact hK⟩)
  · obtain ⟨t, ht, rfl⟩ := List.mem_map.1 hb
    rw [mrg_loc]
    exact ⟨by have := (hZ t ht).1; omega, (hZ t ht).2⟩
  · intro p hp
    obtain ⟨t, ht, rfl⟩ := List.mem_map.1 hp
    have := (hZ t ht).1
    show n + t < n + lc.length
    omega
  · rw [h1]
    have : (ts.map fun t => ((n + t, ⟨lver lc t, .none⟩) : Nat × Blk)) = dropC (mrg n h lc) (ts.map (n + ·)) := by
      unfold dropC
      rw [List.map_map]
      refine List.map_congr_left fun t _ => ?_
      simp only [Function.comp]
      rw [mrg_loc]; rfl
    rw [this]
    exact (app_drop _ _).symm

/-- the same in a region whose order is left open -/
theorem Pure.drawZ {P : Program} {f : FuncId} {ds : List D} {r : D} (hp : Pure P f ds r) {V : St} {args : List Opd} {dst : Option Nat} {g : AGuard} (ts : List Nat)
    (hZ : ∀ t ∈ ts, t < V.lc.length ∧ (V.lc.getD t blk0).con.isOpq = false)
    (hf : ∀ H : Heap, (∀ t ver cs, V.lc[t]? = some ⟨ver, .cells cs⟩ → H (V.n + t) = ⟨ver, .cells cs⟩) → FzL H (ts.map (V.n + ·)) (args.map V.val) ds) :
    stepV P ⟨dst, .call f args, g⟩ V fun d' δ' => d' = r ∧ δ' = ts.map fun t => (V.n + t, ⟨lver V.lc t, .none⟩) := by
  intro s hs
  have hget : ∀ t, (V.lc.getD t blk0).con.isOpq = false → V.lc.getD t blk0 = s.lc.getD t blk0 := fun t ho => by
    have e1 : V.blk (V.n + t) = V.lc.getD t blk0 := mrg_loc ..
    have e2 : s.blk (V.n + t) = s.lc.getD t blk0 := by rw [hs.n]; exact mrg_loc ..
    rcases hs.blk (V.n + t) with h | h
    · rw [e1] at h; rw [h] at ho; cases ho
    · rw [e1, e2] at h; exact h
  have hF := hf s.hp fun t ver cs ht => hs.hp (by
    show mrg V.n V.h V.lc (V.n + t) = _
    rw [mrg_loc]; simp [List.getD, ht])
  have hZ' : ∀ t ∈ ts, t < s.lc.length ∧ (s.lc.getD t blk0).con.isOpq = false := fun t ht => ⟨by rw [← hs.len]; exact (hZ t ht).1, by rw [← hget t (hZ t ht).2]; exact (hZ t ht).2⟩
  have hv : (ts.map fun t => ((V.n + t, ⟨lver V.lc t, .none⟩) : Nat × Blk)) = ts.map fun t => (s.n + t, ⟨lver s.lc t, .none⟩) := List.map_congr_left fun t ht => by
    unfold lver; rw [hget t (hZ t ht).2, hs.n]
  rw [hv]
  rw [hs.n] at hF ⊢
  rw [hs.len]
  cases s with
  | mk n sl h lc => exact hp.callZ ts rfl rfl hZ' hF ⟨rfl, rfl⟩

/-- a live slice of whole numbers, data from now on -/
theorem fz_int {H : Heap} {Z : List Nat} {b ver off len : Nat} {cs : List D} {l : List Int} (hz : b ∈ Z) (hb : H b = ⟨ver, .cells cs⟩) (hl : l.length = len) (hfit : off + len ≤ cs.length)
    (h : ∀ (i : Nat) (x : Int), l[i]? = some x → nth cs (off + i) = .int .i64 x) : Fz H Z (.ref 1 b ver off len) (.lst (l.map (.int .i64))) := by
  refine .frz 1 b ver off len cs _ hz hb (by simp [hl]) (by omega) (fun d hd => ?_) fun i d hd j e he => ?_
  · obtain ⟨x, _, rfl⟩ := List.mem_map.1 hd; rfl
  · simp only [List.getElem?_map, Option.map_eq_some_iff] at hd
    obtain ⟨x, hx, rfl⟩ := hd
    cases j with
    | zero => simp [D.cells] at he; subst he; rw [Nat.mul_one, Nat.add_zero, h i x hx]; exact .same _
    | succ j => simp [D.cells] at he

end Abs
end Go.Proofs.Ytokdeeagghhliaa
