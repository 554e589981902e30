/- Shortcuts: what a function hands back, states that tell less, calls. -/
import Derived.Test.YtfojedaccfenfabA20
namespace Go.Proofs.Ytfojedaccfenfab
namespace Abs
set_option linter.unusedVariables false

variable {P : Program} {n : Nat} {sl : List D} {h : Heap} {lc : List Blk} {R : D → Heap → List Blk → Prop}

theorem wxok_nil {n : Nat} {lc : List Blk} : WxOk ⟨n, lc, [], []⟩ := ⟨rfl, fun i x k h => by simp at h, fun i j t h => by simp at h⟩

/-- a result that needs no block of the callee's -/
theorem fin_wk {d : D} {ds : List D} (hl : LowH n h) (hw : Wk ⟨n, lc, [], []⟩ (tupD ds) d) (hR : R d h []) : Fin (St.mk n sl h lc) R ds :=
  ⟨hl, [], [], d, wxok_nil, hw, by simp, hR⟩
theorem fin_low {ds : List D} (hl : LowH n h) (hd : Low n (tupD ds)) (hR : R (tupD ds) h []) : Fin (St.mk n sl h lc) R ds :=
  fin_wk hl (.low _ hd) hR
theorem fin_int {k : IntKind} {i j : Int} (hl : LowH n h) (e : i = j) : Fin (St.mk n sl h lc) (fun d h' x => h' = h ∧ x = [] ∧ d = .int k j) [.int k i] :=
  fin_low hl (.int ..) ⟨rfl, rfl, by rw [← e]; rfl⟩
theorem fin_bool {i j : Bool} (hl : LowH n h) (e : i = j) : Fin (St.mk n sl h lc) (fun d h' x => h' = h ∧ x = [] ∧ d = .bool j) [.bool i] :=
  fin_low hl (.bool _) ⟨rfl, rfl, by rw [← e]; rfl⟩
/-- a slice in an array of the callee's, cells low -/
theorem fin_ref {sz t ver off len : Nat} {cs : List D} (hl : LowH n h) (hb : lc[t]? = some ⟨ver, .cells cs⟩) (hv : 1 ≤ ver) (hc : ∀ c ∈ cs, Low n c)
    (hR : R (.ref sz (n + 0) ver off len) h [⟨ver, .cells cs⟩]) : Fin (St.mk n sl h lc) R [.ref sz (n + t) ver off len] := by
  have hg : lc.getD t blk0 = ⟨ver, .cells cs⟩ := by simp [List.getD, hb]
  refine ⟨hl, [.old t], [⟨ver, .cells cs⟩], _, ⟨rfl, ?_, ?_⟩, .ref sz t 0 ver ver off len rfl (by rw [hg]) rfl, by simpa using hv, hR⟩
  · intro i x k h1 h2
    cases i with
    | zero =>
      simp at h1 h2
      subst h1; subst h2
      exact ⟨hv, cs, by rw [hg], Nat.le_refl _, fun j d hj => by
        have : nth cs j = d := by simp [nth, List.getD, hj]
        rw [this]; exact .low _ (hc d (List.mem_of_getElem? hj))⟩
    | succ i => simp at h1
  · intro i j t' h1 h2
    cases i <;> cases j <;> simp at h1 h2 <;> rfl

/-- a slice in an array of the callee's, held to be data from now on: cells low, one cell each -/
theorem wk_frz1 {t ver off len : Nat} {cs l : List D} (hb : lc[t]? = some ⟨ver, .cells cs⟩) (hl : l.length = len) (hfit : off + len ≤ cs.length)
    (h1 : ∀ (i : Nat) (d : D), l[i]? = some d → d.cells = [d] ∧ nth cs (off + i) = d ∧ Low n d) : Wk ⟨n, lc, [], []⟩ (.ref 1 (n + t) ver off len) (.lst l) := by
  refine .frz 1 t ver off len cs l hb (by simp) hl (by omega) (fun d hd => ?_) fun i d hd j e he => ?_
  · obtain ⟨i, hi⟩ := List.mem_iff_getElem?.1 hd
    rw [(h1 i d hi).1]; rfl
  · obtain ⟨q1, q2, q3⟩ := h1 i d hd
    rw [q1] at he
    cases j with
    | zero =>
      simp at he; subst he
      rw [Nat.mul_one, Nat.add_zero, q2]; exact .low _ q3
    | succ j => simp at he

def WkL (X : Wx) : List D → List D → Prop
  | [], [] => True
  | _ :: ds, .top :: ds' => WkL X ds ds'
  | d :: ds, d' :: ds' => Wk X d d' ∧ WkL X ds ds'
  | _, _ => False

theorem WkL.len {X : Wx} : ∀ {ds ds' : List D}, WkL X ds ds' → ds'.length = ds.length
  | [], [], _ => rfl
  | [], _ :: _, h => by simp [WkL] at h
  | _ :: _, [], h => by simp [WkL] at h
  | d :: ds, d' :: ds', h => by
    have : WkL X ds ds' := by
      unfold WkL at h
      split at h <;> first | exact h | exact h.2 | (rename_i h1 h2; simp at h1) | (rename_i h1; cases h1) | skip
      all_goals simp_all
    simp [this.len]

theorem WkL.get {X : Wx} : ∀ {ds ds' : List D}, WkL X ds ds' → ∀ (i : Nat) (d d' : D), ds[i]? = some d → ds'[i]? = some d' → Wk X d d'
  | [], [], _, i, d, d', h1, _ => by simp at h1
  | [], _ :: _, h, _, _, _, _, _ => by simp [WkL] at h
  | _ :: _, [], h, _, _, _, _, _ => by simp [WkL] at h
  | d :: ds, d' :: ds', h, i, e, e', h1, h2 => by
    have : WkL X ds ds' ∧ Wk X d d' := by
      cases d' with
      | top => exact ⟨by simpa [WkL] using h, .top _⟩
      | _ => simp only [WkL] at h; exact ⟨h.2, h.1⟩
    cases i with
    | zero => simp at h1 h2; subst h1; subst h2; exact this.2
    | succ i => exact this.1.get i e e' (by simpa using h1) (by simpa using h2)

theorem WkL.low {X : Wx} : ∀ {ds : List D}, (∀ d ∈ ds, Low X.n d) → WkL X ds ds
  | [], _ => trivial
  | d :: ds, h => by
    have h1 := WkL.low (ds := ds) fun d hd => h d (by simp [hd])
    cases d with
    | top => exact h1
    | _ => exact ⟨.low _ (h _ (by simp)), h1⟩

def BlkAll (X : Wx) : List Src1 → List Blk → Prop
  | [], [] => True
  | .hole :: g, ⟨_, .none⟩ :: l => BlkAll X g l
  | .nil :: g, ⟨v, .cells []⟩ :: l => 1 ≤ v ∧ BlkAll X g l
  | .old t :: g, ⟨v, .cells cs'⟩ :: l => 1 ≤ v ∧ (∃ cs, (X.lc.getD t blk0).con = .cells cs ∧ WkL X cs cs') ∧ BlkAll X g l
  | _, _ => False

theorem BlkAll.get {X : Wx} : ∀ {g : List Src1} {l : List Blk}, BlkAll X g l → l.length = g.length ∧ ∀ (i : Nat) (x : Src1) (k : Blk), g[i]? = some x → l[i]? = some k → BlkWk X x k := by
  intro g
  induction g with
  | nil => intro l h; cases l with
    | nil => exact ⟨rfl, fun i x k h => by simp at h⟩
    | cons k l => simp [BlkAll] at h
  | cons y g ih =>
    intro l h
    cases l with
    | nil => cases y <;> simp [BlkAll] at h
    | cons k l =>
      have key : BlkAll X g l ∧ BlkWk X y k := by
        cases y with
        | hole =>
          cases k with
          | mk v c => cases c <;> first | exact ⟨h, trivial⟩ | exact h.elim
        | nil =>
          cases k with
          | mk v c => cases c <;> first | exact h.elim | (rename_i cs; cases cs <;> first | exact ⟨h.2, h.1⟩ | exact h.elim)
        | old t =>
          cases k with
          | mk v c => cases c <;> first | exact h.elim | (obtain ⟨h1, ⟨cs, h2, h3⟩, h4⟩ := h; exact ⟨h4, h1, cs, h2, Nat.le_of_eq h3.len, fun j d' hd' => by
              have hj : j < cs.length := by
                have := (List.getElem?_eq_some_iff.1 hd').1
                have := h3.len
                omega
              exact h3.get j _ d' (nth_get hj) hd'⟩)
      obtain ⟨h1, h2⟩ := ih key.1
      refine ⟨by simp [h1], fun i x k' hx hk => ?_⟩
      cases i with
      | zero => simp at hx hk; subst hx; subst hk; exact key.2
      | succ i => exact h2 i x k' (by simpa using hx) (by simpa using hk)

def olds (g : List Src1) : List Nat := g.filterMap fun | .old t => some t | _ => none
def nodupB : List Nat → Bool
  | [] => true
  | a :: l => !l.contains a && nodupB l

theorem olds_inj : ∀ (g : List Src1), nodupB (olds g) = true → ∀ (i j t : Nat), g[i]? = some (.old t) → g[j]? = some (.old t) → i = j
  | [], _, i, j, t, h, _ => by simp at h
  | y :: g, hn, i, j, t, h1, h2 => by
    have mem : ∀ (i t : Nat), g[i]? = some (.old t) → t ∈ olds g := fun i t h => List.mem_filterMap.2 ⟨_, List.mem_of_getElem? h, rfl⟩
    have hg : nodupB (olds g) = true := by
      cases y with
      | old u =>
        have : olds (.old u :: g) = u :: olds g := rfl
        rw [this] at hn
        simp only [nodupB, Bool.and_eq_true] at hn
        exact hn.2
      | _ => exact hn
    have hu : y = .old t → t ∉ olds g := fun e => by
      subst e
      have : olds (.old t :: g) = t :: olds g := rfl
      rw [this] at hn
      simp only [nodupB, Bool.and_eq_true, Bool.not_eq_true', List.contains_eq_mem, decide_eq_false_iff_not] at hn
      exact hn.1
    cases i with
    | zero => cases j with
      | zero => rfl
      | succ j => simp at h1 h2; exact (hu h1 (mem j t h2)).elim
    | succ i => cases j with
      | zero => simp at h1 h2; exact (hu h2 (mem i t h1)).elim
      | succ j => simp at h1 h2; rw [olds_inj g hg i j t h1 h2]

/-- a state that tells less -/
theorem le_to {sl' : List D} {lc' : List Blk} (g : List Src1) (hl : LowH n h) (hn : nodupB (olds g) = true) (hb : BlkAll ⟨n, lc, g, lc'⟩ g lc') (hw : WkL ⟨n, lc, g, lc'⟩ sl sl') :
    Le (St.mk n sl h lc) (St.mk n sl' h lc') :=
  le_wk g hl ⟨hb.get.1, hb.get.2, olds_inj g hn⟩ hw.len hw.get

theorem le_toh {h' : Heap} {sl' : List D} {lc' : List Blk} (g : List Src1) (hl : LowH n h) (eh : h' = h) (hn : nodupB (olds g) = true) (hb : BlkAll ⟨n, lc, g, lc'⟩ g lc') (hw : WkL ⟨n, lc, g, lc'⟩ sl sl') :
    Le (St.mk n sl h lc) (St.mk n sl' h' lc') := by subst eh; exact le_to g hl hn hb hw

theorem lowH_upd {b : Nat} {v : Nat} {cs : List D} (hl : LowH n h) (hc : ∀ c ∈ cs, Low n c) : LowH n (upd h b ⟨v, .cells cs⟩) := by
  intro b' hb'
  unfold upd
  by_cases e : b' = b
  · subst e; simpa using hc
  · simp only [e, if_false]; exact hl b' hb'
theorem upd_upd (h : Heap) (b : Nat) (x y : Blk) : upd (upd h b x) b y = upd h b y := by
  funext c; unfold upd; split <;> rfl
theorem upd_self {b : Nat} {x : Blk} (hb : h b = x) : upd h b x = h := by
  funext c; unfold upd; split
  · rename_i e; rw [e, hb]
  · rfl
theorem y_at_old {b ver : Nat} {K : List D → Prop} (hb : b < n) : St.at (St.mk n sl h lc) b ver K = (match h b with | ⟨v, .cells cs⟩ => v = ver ∧ K cs | _ => False) := by
  unfold St.at St.blk; rw [mrg_lt hb]; rfl
theorem wk_old {X : Wx} {sz b ver off len len' : Nat} (hb : b < X.n) (e : len = len') : Wk X (.ref sz b ver off len) (.ref sz b ver off len') := e ▸ .low _ (.ref _ _ _ _ _ (.inl hb))

theorem fin_old {R : D → Heap → List Blk → Prop} {sz b ver off len : Nat} (hl : LowH n h) (hb : b < n) (hR : R (.ref sz b ver off len) h []) : Fin (St.mk n sl h lc) R [.ref sz b ver off len] :=
  fin_low hl (Bd.ref _ _ _ _ _ (.inl hb)) hR

theorem y_blk_end {X : Wx} : BlkAll X [] [] = True := rfl
theorem y_blk_hole {X : Wx} {g : List Src1} {l : List Blk} : BlkAll X (.hole :: g) (blk0 :: l) = BlkAll X g l := rfl
theorem y_blk_nil {X : Wx} {g : List Src1} {v : Nat} {l : List Blk} : BlkAll X (.nil :: g) (⟨v, .cells []⟩ :: l) = (1 ≤ v ∧ BlkAll X g l) := rfl
theorem y_blk_old {X : Wx} {g : List Src1} {v t : Nat} {cs' : List D} {l : List Blk} : BlkAll X (.old t :: g) (⟨v, .cells cs'⟩ :: l) = (1 ≤ v ∧ (∃ cs, (X.lc.getD t blk0).con = .cells cs ∧ WkL X cs cs') ∧ BlkAll X g l) := rfl
theorem y_wkl_end {X : Wx} : WkL X [] [] = True := rfl
theorem y_wkl_top {X : Wx} {d : D} {ds ds' : List D} : WkL X (d :: ds) (.top :: ds') = WkL X ds ds' := by simp [WkL]
theorem y_wkl {X : Wx} {d d' : D} {ds ds' : List D} (h : Wk X d d') (h' : WkL X ds ds') : WkL X (d :: ds) (d' :: ds') := by
  cases d' <;> first | exact ⟨h, h'⟩ | (simp only [WkL]; exact h')
theorem y_wkl_tops {X : Wx} : ∀ {ds : List D} {k : Nat}, ds.length = k → WkL X ds (List.replicate k .top)
  | [], 0, _ => trivial
  | d :: ds, k + 1, h => by simp only [List.replicate_succ, y_wkl_top]; exact y_wkl_tops (by simpa using h)
theorem wk_int {X : Wx} {k : IntKind} {i j : Int} (h : i = j) : Wk X (.int k i) (.int k j) := h ▸ .low _ (.int k i)
theorem wk_bool {X : Wx} {i j : Bool} (h : i = j) : Wk X (.bool i) (.bool j) := h ▸ .low _ (.bool i)
theorem wk_eq {X : Wx} {d d' : D} (h : d = d') (hl : Low X.n d) : Wk X d d' := h ▸ .low _ hl
theorem wk_ptr {X : Wx} {n t i ver ver' off : Nat} (hg : X.g[i]? = some (.old t)) (hn : X.n = n) (hv : (X.lc.getD t blk0).ver = ver) (hv' : (X.lc'.getD i blk0).ver = ver') : Wk X (.ptr (n + t) ver off) (.ptr (n + i) ver' off) :=
  hn ▸ .ptr t i ver ver' off hg hv hv'
theorem wk_ref {X : Wx} {n sz t i ver ver' off len len' : Nat} (hg : X.g[i]? = some (.old t)) (hn : X.n = n) (hv : (X.lc.getD t blk0).ver = ver) (hv' : (X.lc'.getD i blk0).ver = ver') (hl : len = len') : Wk X (.ref sz (n + t) ver off len) (.ref sz (n + i) ver' off len') :=
  hl ▸ hn ▸ .ref sz t i ver ver' off len hg hv hv'
theorem wk_nil {X : Wx} {n sz i ver' : Nat} (hg : X.g[i]? = some .nil) (hn : X.n = n) (hv' : (X.lc'.getD i blk0).ver = ver') : Wk X .nils (.ref sz (n + i) ver' 0 0) :=
  hn ▸ .nils sz i ver' hg hv'
theorem old_same {X : Wx} {t : Nat} {cs cs' : List D} (h : (X.lc.getD t blk0).con = .cells cs) (hw : WkL X cs cs') : ∃ cs, (X.lc.getD t blk0).con = .cells cs ∧ WkL X cs cs' := ⟨cs, h, hw⟩

theorem y_call {Q : D → Chg → Prop} (dst : Option Nat) (g : AGuard) (f : FuncId) (args : List Opd) :
    stepS P ⟨dst, .call f args, g⟩ (St.mk n sl h lc) Q = ACalls P f (args.map (St.val (St.mk n sl h lc))) (n + lc.length) (mrg n h lc) (callK (St.mk n sl h lc) dst Q) := by rw [stepS_eq]; rfl
theorem y_callv {Q : D → Chg → Prop} (dst : Option Nat) (g : AGuard) (x : Opd) (args : List Opd) :
    stepS P ⟨dst, .callv x args, g⟩ (St.mk n sl h lc) Q = (match St.val (St.mk n sl h lc) x with
    | .fn f caps => ACalls P f (args.map (St.val (St.mk n sl h lc)) ++ caps) (n + lc.length) (mrg n h lc) (callK (St.mk n sl h lc) dst Q)
    | _ => False) := by rw [stepS_eq]; rfl

/-- a function that changes nothing that its caller sees, and hands back r -/
def Pure (P : Program) (f : FuncId) (ds : List D) (r : D) : Prop := ∀ (n : Nat) (h : Heap), ACalls P f ds n h fun d h' x => h' = h ∧ x = [] ∧ d = r

theorem Pure.call {f : FuncId} {ds : List D} {r : D} (hp : Pure P f ds r) {N : Nat} {H : Heap} {s : St} {dst : Option Nat} {K : D → Chg → Prop} (hH : H = s.hp) (hK : K r []) : ACalls P f ds N H (callK s dst K) :=
  (hp N H).mono fun d h' x ⟨h1, h2, h3⟩ => .inl ⟨[], by simp [St.inr], h2, by rw [h1, hH]; rfl, by rw [h3]; exact hK⟩

end Abs
end Go.Proofs.Ytfojedaccfenfab
