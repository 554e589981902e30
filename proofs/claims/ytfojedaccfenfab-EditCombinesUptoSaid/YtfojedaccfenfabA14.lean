/- States that tell less: values dropped, blocks renamed, dropped or held to be data from now on; a function's entry and return. -/
import Derived.Test.YtfojedaccfenfabA13
namespace Go.Proofs.Ytfojedaccfenfab
namespace Abs
set_option linter.unusedVariables false

/-- where a new local block comes from -/
inductive Src1 where
  | hole
  | nil
  | old (t : Nat)

structure Wx where
  n : Nat
  lc : List Blk
  g : List Src1
  lc' : List Blk

/-- a value that tells less -/
inductive Wk (X : Wx) : D → D → Prop
  | top (d : D) : Wk X d .top
  | low (d : D) (h : Low X.n d) : Wk X d d
  | ref (sz t i ver ver' off len : Nat) (hg : X.g[i]? = some (.old t)) (hv : (X.lc.getD t blk0).ver = ver) (hv' : (X.lc'.getD i blk0).ver = ver') : Wk X (.ref sz (X.n + t) ver off len) (.ref sz (X.n + i) ver' off len)
  | ptr (t i ver ver' off : Nat) (hg : X.g[i]? = some (.old t)) (hv : (X.lc.getD t blk0).ver = ver) (hv' : (X.lc'.getD i blk0).ver = ver') : Wk X (.ptr (X.n + t) ver off) (.ptr (X.n + i) ver' off)
  | map (t i ver ver' : Nat) (hg : X.g[i]? = some (.old t)) (hv : (X.lc.getD t blk0).ver = ver) (hv' : (X.lc'.getD i blk0).ver = ver') : Wk X (.map (X.n + t) ver) (.map (X.n + i) ver')
  | nils (sz i ver' : Nat) (hg : X.g[i]? = some .nil) (hv' : (X.lc'.getD i blk0).ver = ver') : Wk X .nils (.ref sz (X.n + i) ver' 0 0)
  | nilsLst : Wk X .nils (.lst [])
  | empLst : Wk X .emp (.lst [])
  | nilsEmp : Wk X .nils .emp
  | frz (sz t ver off len : Nat) (cs l : List D) (hb : X.lc[t]? = some ⟨ver, .cells cs⟩) (hg : Src1.old t ∉ X.g) (hlen : l.length = len) (hfit : off + len * sz ≤ cs.length)
      (hsz : ∀ d ∈ l, d.cells.length = sz) (h : ∀ (i : Nat) (d : D), l[i]? = some d → ∀ (j : Nat) (e : D), d.cells[j]? = some e → Wk X (nth cs (off + i * sz + j)) e) : Wk X (.ref sz (X.n + t) ver off len) (.lst l)
  | frzp (t ver off : Nat) (cs l : List D) (hb : X.lc[t]? = some ⟨ver, .cells cs⟩) (hne : cs ≠ []) (hg : Src1.old t ∉ X.g) (hfit : off + l.length ≤ cs.length)
      (h : ∀ (j : Nat) (e : D), l[j]? = some e → Wk X (nth cs (off + j)) e) : Wk X (.ptr (X.n + t) ver off) (.adr l)
  | agg (cs cs' : List D) (hl : cs'.length = cs.length) (h : ∀ (i : Nat) (c c' : D), cs[i]? = some c → cs'[i]? = some c' → Wk X c c') : Wk X (.agg cs) (.agg cs')
  | tup (cs cs' : List D) (hl : cs'.length = cs.length) (h : ∀ (i : Nat) (c c' : D), cs[i]? = some c → cs'[i]? = some c' → Wk X c c') : Wk X (.tup cs) (.tup cs')
  | fn (f : FuncId) (cs cs' : List D) (hl : cs'.length = cs.length) (h : ∀ (i : Nat) (c c' : D), cs[i]? = some c → cs'[i]? = some c' → Wk X c c') : Wk X (.fn f cs) (.fn f cs')
  | bool (b : Bool) : Wk X (.bool b) .abool

def BlkWk (X : Wx) : Src1 → Blk → Prop
  | .hole, ⟨_, .none⟩ => True
  | .nil, ⟨v, .cells []⟩ => 1 ≤ v
  | .old t, ⟨v, .cells cs'⟩ => 1 ≤ v ∧ ∃ cs, (X.lc.getD t blk0).con = .cells cs ∧ cs'.length ≤ cs.length ∧ ∀ (j : Nat) (d' : D), cs'[j]? = some d' → Wk X (nth cs j) d'
  | .old t, ⟨v, .map es'⟩ => 1 ≤ v ∧ ∃ es, (X.lc.getD t blk0).con = .map es ∧ es'.length = es.length ∧
      ∀ (j : Nat) (k d k' d' : D), es[j]? = some (k, d) → es'[j]? = some (k', d') → Wk X k k' ∧ Wk X d d'
  | _, _ => False

structure WxOk (X : Wx) : Prop where
  len : X.lc'.length = X.g.length
  blk : ∀ (i : Nat) (x : Src1) (k : Blk), X.g[i]? = some x → X.lc'[i]? = some k → BlkWk X x k
  inj : ∀ (i j t : Nat), X.g[i]? = some (.old t) → X.g[j]? = some (.old t) → i = j

def LowH (n : Nat) (h : Heap) : Prop := ∀ b, b < n → match (h b).con with
  | .none => True
  | .veil => True
  | .cells cs => ∀ c ∈ cs, Low n c
  | .map es => ∀ e ∈ es, Low n e.1 ∧ Low n e.2

def wkM (X : Wx) (M : Ctx) : Ctx := fun b => if b < X.n then M b else
  match X.g[b - X.n]? with
  | some (.old t) => ⟨(X.lc'.getD (b - X.n) blk0).ver, (M (X.n + t)).loc, false⟩
  | some .nil => ⟨(X.lc'.getD (b - X.n) blk0).ver, some (.nil none), false⟩
  | some .hole => ⟨(X.lc'.getD (b - X.n) blk0).ver, none, false⟩
  | none => hole

section
variable {X : Wx} {w : World} {M : Ctx} {h : Heap}

theorem wkM_lt {b : Nat} (hb : b < X.n) : wkM X M b = M b := by simp [wkM, hb]
theorem wkM_old {i t : Nat} (hg : X.g[i]? = some (.old t)) : wkM X M (X.n + i) = ⟨(X.lc'.getD i blk0).ver, (M (X.n + t)).loc, false⟩ := by
  simp [wkM, hg, Nat.not_lt.2 (Nat.le_add_right X.n i)]
theorem wkM_nil {i : Nat} (hg : X.g[i]? = some .nil) : wkM X M (X.n + i) = ⟨(X.lc'.getD i blk0).ver, some (.nil none), false⟩ := by
  simp [wkM, hg, Nat.not_lt.2 (Nat.le_add_right X.n i)]

theorem wkM_loc {b c base : Nat} (hl : (wkM X M b).loc = some (.mem c base)) : ∃ b0, (M b0).loc = some (.mem c base) ∧ ((b < X.n ∧ b0 = b) ∨ ∃ t, X.n ≤ b ∧ X.g[b - X.n]? = some (.old t) ∧ b0 = X.n + t) := by
  unfold wkM at hl
  split at hl
  · rename_i hb; exact ⟨b, hl, .inl ⟨hb, rfl⟩⟩
  · rename_i hb
    split at hl
    · rename_i t hg; exact ⟨_, hl, .inr ⟨t, by omega, hg, rfl⟩⟩
    · simp at hl
    · simp at hl
    · simp [hole] at hl

theorem wkM_occ {c : Nat} (hl : Occ (wkM X M) c) : Occ M c := by
  obtain ⟨b, base, hl⟩ := hl
  obtain ⟨b0, h0, _⟩ := wkM_loc hl
  exact ⟨b0, base, h0⟩

theorem wkM_hole (hX : WxOk X) {b : Nat} (hb : X.n ≤ b) (h0 : (wkM X M b).ver = 0) : (wkM X M b).loc = none := by
  have hnb : ¬ b < X.n := by omega
  unfold wkM at h0 ⊢
  rw [if_neg hnb] at h0 ⊢
  have hk : ∀ x, X.g[b - X.n]? = some x → ∃ k, X.lc'[b - X.n]? = some k ∧ (X.lc'.getD (b - X.n) blk0) = k ∧ BlkWk X x k := fun x hx => by
    have hlt : b - X.n < X.lc'.length := by rw [hX.len]; exact (List.getElem?_eq_some_iff.1 hx).1
    exact ⟨X.lc'[b - X.n], by simp [hlt], by simp [List.getD, hlt], hX.blk _ _ _ hx (by simp [hlt])⟩
  split at h0
  · rename_i t hg
    obtain ⟨k, _, h2, h3⟩ := hk _ hg
    simp only [h2] at h0
    obtain ⟨v, con⟩ := k
    cases con <;> simp only [BlkWk] at h3 <;> first | exact h3.elim | (simp only at h0; omega)
  · rename_i hg
    obtain ⟨k, _, h2, h3⟩ := hk _ hg
    simp only [h2] at h0
    obtain ⟨v, con⟩ := k
    cases con with
    | cells cs => cases cs <;> simp only [BlkWk] at h3; simp only at h0; omega
    | _ => simp only [BlkWk] at h3
  · rfl
  · rfl

theorem wk_rep (hX : WxOk X) (hs : Sim w M (mrg X.n h X.lc)) {d d' : D} (hw : Wk X d d') : ∀ {v : Value}, Rep w M d v → Rep w (wkM X M) d' v := by
  have hver : ∀ t, (M (X.n + t)).ver = (X.lc.getD t blk0).ver := fun t => by rw [hs.ver, mrg_loc]
  induction hw with
  | top d => exact fun _ => .top _
  | low d hl => exact fun hr => hr.relow (fun b ver hp hle => by
      by_cases hb : b < X.n
      · rw [wkM_lt hb]; exact ⟨hle, fun e => .inr ⟨e, rfl⟩⟩
      · have h0 := hp.resolve_left hb
        subst h0
        exact ⟨Nat.zero_le _, fun e => .inl (wkM_hole hX (by omega) e)⟩) (fun c => wkM_occ) hl
  | ref sz t i ver ver' off len hg hv hv' =>
    intro v hr
    cases hr with
    | ref _ _ _ _ _ _ hle hp h1 =>
      refine .ref _ _ _ _ _ _ (by rw [wkM_old hg]; exact Nat.le_of_eq hv'.symm) (fun _ => ?_) h1
      rw [wkM_old hg]
      exact hp (by rw [hver, hv])
  | ptr t i ver ver' off hg hv hv' =>
    intro v hr
    cases hr with
    | ptr _ _ _ _ hle hp h1 =>
      refine .ptr _ _ _ _ (by rw [wkM_old hg]; exact Nat.le_of_eq hv'.symm) (fun _ => ?_) h1
      rw [wkM_old hg]
      exact hp (by rw [hver, hv])
  | map t i ver ver' hg hv hv' =>
    intro v hr
    cases hr with
    | map _ _ _ hle hp h1 =>
      refine .map _ _ _ (by rw [wkM_old hg]; exact Nat.le_of_eq hv'.symm) (fun _ => ?_) h1
      rw [wkM_old hg]
      exact hp (by rw [hver, hv])
  | nils sz i ver' hg hv' =>
    intro v hr
    cases hr with
    | nils => exact .ref _ _ _ _ _ _ (by rw [wkM_nil hg]; exact Nat.le_of_eq hv'.symm) (fun _ => by rw [wkM_nil hg]; exact ⟨rfl, rfl, rfl⟩) ⟨_, _, _, rfl⟩
  | nilsLst => intro v hr; cases hr with | nils => exact .lst0 _ _
  | empLst => intro v hr; cases hr with | emp a => exact .lst0 _ _
  | nilsEmp => intro v hr; cases hr with | nils => exact .emp _
  | bool b => intro v hr; cases hr with | bool _ => exact .abool _
  | agg cs cs' hl _ ih =>
    intro v hr
    cases hr with
    | agg _ vs hl2 hr2 =>
      refine .agg _ _ (by rw [hl2, hl]) fun i c' v hc' hv => ?_
      have hi : i < cs.length := by rw [← hl]; exact (List.getElem?_eq_some_iff.1 hc').1
      exact ih i _ c' (nth_get hi) hc' (hr2 i _ v (nth_get hi) hv)
  | tup cs cs' hl _ ih =>
    intro v hr
    cases hr with
    | tup _ vs hl2 hr2 =>
      refine .tup _ _ (by rw [hl2, hl]) fun i c' v hc' hv => ?_
      have hi : i < cs.length := by rw [← hl]; exact (List.getElem?_eq_some_iff.1 hc').1
      exact ih i _ c' (nth_get hi) hc' (hr2 i _ v (nth_get hi) hv)
  | fn f cs cs' hl _ ih =>
    intro v hr
    cases hr with
    | fn _ _ vs hl2 hr2 =>
      refine .fn _ _ _ (by rw [hl2, hl]) fun i c' v hc' hv => ?_
      have hi : i < cs.length := by rw [← hl]; exact (List.getElem?_eq_some_iff.1 hc').1
      exact ih i _ c' (nth_get hi) hc' (hr2 i _ v (nth_get hi) hv)
  | frz sz t ver off len cs l hb hg hlen hfit hsz _ ih =>
    intro v hr
    have hblk : mrg X.n h X.lc (X.n + t) = ⟨ver, .cells cs⟩ := by rw [mrg_loc]; simp [List.getD, hb]
    have hM1 := hs.ver (X.n + t)
    have hM2 := hs.con (X.n + t)
    rw [hblk] at hM1 hM2
    cases hr with
    | ref _ _ _ _ _ _ hle hp h1 =>
      have hp' := hp hM1
      have hempty : ∀ a, v = .slice a 0 0 → len = 0 → Rep w (wkM X M) (.lst l) v := fun a hv h0 => by
        subst hv; subst h0
        have : l = [] := List.eq_nil_of_length_eq_zero hlen
        subst this
        exact .lst0 _ _
      rcases hM2 with ⟨a, hloc, _⟩ | ⟨c, base, C, e, hloc, hc, hszC, hrep⟩
      · rw [hloc] at hp'; exact hempty a hp'.2.2 hp'.2.1
      · rw [hloc] at hp'
        rcases hp' with ⟨h0, a, hv⟩ | ⟨cap, rfl, hcap, hroom⟩
        · exact hempty a hv h0
        · subst hlen
          have hnl : ¬ Occ (wkM X M) c := by
            rintro ⟨b, base', hl⟩
            obtain ⟨b0, h0, hb0⟩ := wkM_loc hl
            have hbe := hs.inj b0 (X.n + t) c base' base h0 hloc
            rcases hb0 with ⟨h1, h2⟩ | ⟨t', h1, h2, h3⟩
            · omega
            · have : t' = t := by omega
              subst this
              exact hg (List.mem_of_getElem? h2)
          have hcl : c < w.heap.size := (Array.getElem?_eq_some_iff.1 hc).1
          refine .lst l ⟨c, base + off, none⟩ cap sz (fun i j => C.getD (base + (off + i * sz + j)) undef) hcap rfl hcl hnl hsz (fun i d hd j e he => ?_) (fun i d hd j e he => ?_)
          · have hi : i < l.length := (List.getElem?_eq_some_iff.1 hd).1
            have hj : j < sz := by rw [← hsz d (List.mem_of_getElem? hd)]; exact (List.getElem?_eq_some_iff.1 he).1
            have hle : (i + 1) * sz ≤ l.length * sz := Nat.mul_le_mul_right _ hi
            rw [Nat.add_mul] at hle
            rw [Addr.lit_add]
            have hlt : base + (off + i * sz + j) < C.size := by omega
            simp only [World.cell?, hc]
            rw [show base + off + (i * sz + j) = base + (off + i * sz + j) by omega]
            simp [hlt]
          · have hi : i < l.length := (List.getElem?_eq_some_iff.1 hd).1
            have hj : j < sz := by rw [← hsz d (List.mem_of_getElem? hd)]; exact (List.getElem?_eq_some_iff.1 he).1
            have hle : (i + 1) * sz ≤ l.length * sz := Nat.mul_le_mul_right _ hi
            rw [Nat.add_mul] at hle
            have hlt : off + i * sz + j < cs.length := by omega
            obtain ⟨u, hu1, hu2⟩ := hrep _ _ (nth_get hlt)
            have : C.getD (base + (off + i * sz + j)) undef = u := by
              rw [Array.getD_eq_getD_getElem?, hu1]; rfl
            rw [this]
            exact ih i d hd j e he hu2
  | frzp t ver off cs l hb hne hg hfit _ ih =>
    intro v hr
    have hblk : mrg X.n h X.lc (X.n + t) = ⟨ver, .cells cs⟩ := by rw [mrg_loc]; simp [List.getD, hb]
    have hM1 := hs.ver (X.n + t)
    have hM2 := hs.con (X.n + t)
    rw [hblk] at hM1 hM2
    cases hr with
    | ptr _ _ _ _ hle hp h1 =>
      have hp' := hp hM1
      rcases hM2 with ⟨a, hloc, hcs⟩ | ⟨c, base, C, e, hloc, hc, hszC, hrep⟩
      · exact absurd hcs hne
      · rw [hloc] at hp'
        simp only [PtrOk] at hp'
        subst hp'
        have hnl : ¬ Occ (wkM X M) c := by
          rintro ⟨b, base', hl⟩
          obtain ⟨b0, h0, hb0⟩ := wkM_loc hl
          have hbe := hs.inj b0 (X.n + t) c base' base h0 hloc
          rcases hb0 with ⟨h1, h2⟩ | ⟨t', h1, h2, h3⟩
          · omega
          · have : t' = t := by omega
            subst this
            exact hg (List.mem_of_getElem? h2)
        have hcl : c < w.heap.size := (Array.getElem?_eq_some_iff.1 hc).1
        refine .adr l ⟨c, base + off, none⟩ (fun j => C.getD (base + (off + j)) undef) rfl hcl hnl (fun j e he => ?_) (fun j e he => ?_)
        · have hj : j < l.length := (List.getElem?_eq_some_iff.1 he).1
          rw [Addr.lit_add]
          have hlt : base + (off + j) < C.size := by omega
          simp only [World.cell?, hc]
          rw [show base + off + j = base + (off + j) by omega]
          simp [hlt]
        · have hj : j < l.length := (List.getElem?_eq_some_iff.1 he).1
          have hlt : off + j < cs.length := by omega
          obtain ⟨u, hu1, hu2⟩ := hrep _ _ (nth_get hlt)
          have : C.getD (base + (off + j)) undef = u := by
            rw [Array.getD_eq_getD_getElem?, hu1]; rfl
          rw [this]
          exact ih j e he hu2

theorem wk_con (hX : WxOk X) (hs : Sim w M (mrg X.n h X.lc)) {loc : Option Loc} {cs cs' : List D} (hc : ConOk w M loc (.cells cs)) (hl : cs'.length ≤ cs.length)
    (hwk : ∀ (j : Nat) (d' : D), cs'[j]? = some d' → Wk X (nth cs j) d') : ConOk w (wkM X M) loc (.cells cs') := by
  rcases hc with ⟨a, h1, h2⟩ | ⟨c, base, C, e, h1, h2, h3, h4⟩
  · subst h2
    exact .inl ⟨a, h1, List.eq_nil_of_length_eq_zero (by simpa using hl)⟩
  · refine .inr ⟨c, base, C, e, h1, h2, by omega, fun j d' hd' => ?_⟩
    have hj : j < cs.length := Nat.lt_of_lt_of_le (List.getElem?_eq_some_iff.1 hd').1 hl
    obtain ⟨v, hv, hr⟩ := h4 j _ (nth_get hj)
    exact ⟨v, hv, wk_rep hX hs (hwk j d' hd') hr⟩

theorem wk_sim (hX : WxOk X) (hlow : LowH X.n h) (hs : Sim w M (mrg X.n h X.lc)) : Sim w (wkM X M) (mrg X.n h X.lc') where
  ver b := by
    by_cases hb : b < X.n
    · rw [wkM_lt hb, hs.ver, mrg_lt hb, mrg_lt hb]
    · have hb' : mrg X.n h X.lc' b = X.lc'.getD (b - X.n) blk0 := by simp [mrg, hb]
      rw [hb']
      unfold wkM
      rw [if_neg hb]
      split
      · rfl
      · rfl
      · rfl
      · rename_i hg
        have : X.lc'[b - X.n]? = none := by
          rw [List.getElem?_eq_none_iff, hX.len]; exact List.getElem?_eq_none_iff.1 hg
        simp [this, hole, blk0]
  con b := by
    by_cases hb : b < X.n
    · rw [wkM_lt hb, mrg_lt hb]
      have hc := hs.con b
      rw [mrg_lt hb] at hc
      have hl := hlow b hb
      cases hcon : (h b).con with
      | none => rw [hcon] at hc; exact hc
      | veil => rw [hcon] at hc; exact hc
      | cells cs =>
        rw [hcon] at hc hl
        exact wk_con hX hs hc (Nat.le_refl _) fun j d' hd' => by rw [nth_of hd']; exact .low _ (hl d' (List.mem_of_getElem? hd'))
      | map es =>
        rw [hcon] at hc hl
        obtain ⟨c, E, cl, h1, h2, h3, h4, h5, h6⟩ := hc
        refine ⟨c, E, cl, h1, h2, h3, h4, h5, fun j k d hj => ?_⟩
        obtain ⟨x, hx, hk, hr⟩ := h6 j k d hj
        have hl' := hl _ (List.mem_of_getElem? hj)
        exact ⟨x, hx, wk_rep hX hs (.low _ hl'.1) hk, wk_rep hX hs (.low _ hl'.2) hr⟩
    · have hb' : mrg X.n h X.lc' b = X.lc'.getD (b - X.n) blk0 := by simp [mrg, hb]
      rw [hb']
      have hk : ∀ x, X.g[b - X.n]? = some x → BlkWk X x (X.lc'.getD (b - X.n) blk0) := fun x hx => by
        have hlt : b - X.n < X.lc'.length := by rw [hX.len]; exact (List.getElem?_eq_some_iff.1 hx).1
        have := hX.blk _ x X.lc'[b - X.n] hx (by simp [hlt])
        simpa [List.getD, hlt] using this
      unfold wkM
      rw [if_neg hb]
      split
      · rename_i t hg
        have h1 := hk _ hg
        have hold := hs.con (X.n + t)
        rw [mrg_loc] at hold
        generalize X.lc'.getD (b - X.n) blk0 = k at h1
        obtain ⟨v, con⟩ := k
        cases con with
        | none => exact h1.elim
        | veil => exact h1.elim
        | cells cs' =>
          obtain ⟨_, cs, hcs, hle, hwk⟩ := h1
          rw [hcs] at hold
          exact wk_con hX hs hold hle hwk
        | map es' =>
          obtain ⟨_, es, hes, hle, hwk⟩ := h1
          rw [hes] at hold
          obtain ⟨c, E, cl, h1, h2, h3, h4, h5, h6⟩ := hold
          refine ⟨c, E, cl, h1, h2, by rw [h3, hle], h4, h5, fun j k' d' hj => ?_⟩
          have hjlt : j < es.length := by rw [← hle]; exact (List.getElem?_eq_some_iff.1 hj).1
          have hes' : es[j]? = some (es[j].1, es[j].2) := by simp [hjlt]
          obtain ⟨x, hx, hk, hr⟩ := h6 j _ _ hes'
          obtain ⟨w1, w2⟩ := hwk j _ _ k' d' hes' hj
          exact ⟨x, hx, wk_rep hX hs w1 hk, wk_rep hX hs w2 hr⟩
      · rename_i hg
        have h1 := hk _ hg
        generalize X.lc'.getD (b - X.n) blk0 = k at h1
        obtain ⟨v, con⟩ := k
        cases con with
        | cells cs =>
          cases cs with
          | nil => exact .inl ⟨none, rfl, rfl⟩
          | cons c cs => exact h1.elim
        | none => exact h1.elim
        | veil => exact h1.elim
        | map es => exact h1.elim
      · rename_i hg
        have h1 := hk _ hg
        generalize X.lc'.getD (b - X.n) blk0 = k at h1
        obtain ⟨v, con⟩ := k
        cases con with
        | none => rfl
        | veil => exact h1.elim
        | cells cs => exact h1.elim
        | map es => exact h1.elim
      · rename_i hg
        have : X.lc'[b - X.n]? = none := by
          rw [List.getElem?_eq_none_iff, hX.len]; exact List.getElem?_eq_none_iff.1 hg
        simp only [List.getD, this, Option.getD_none, blk0, hole]
        rfl
  inj b b' c base base' h1 h2 := by
    obtain ⟨b0, e0, k0⟩ := wkM_loc h1
    obtain ⟨b1, e1, k1⟩ := wkM_loc h2
    have := hs.inj b0 b1 c base base' e0 e1
    rcases k0 with ⟨k0, rfl⟩ | ⟨t, k0, g0, rfl⟩ <;> rcases k1 with ⟨k1, rfl⟩ | ⟨t', k1, g1, rfl⟩
    · exact this
    · omega
    · omega
    · have ht : t = t' := by omega
      subst ht
      have := hX.inj _ _ t g0 g1
      omega
  opq b := by
    by_cases hb : b < X.n
    · rw [wkM_lt hb, mrg_lt hb, hs.opq, mrg_lt hb]
    · have hb' : mrg X.n h X.lc' b = X.lc'.getD (b - X.n) blk0 := by simp [mrg, hb]
      rw [hb']
      unfold wkM
      rw [if_neg hb]
      have hk : ∀ x, X.g[b - X.n]? = some x → BlkWk X x (X.lc'.getD (b - X.n) blk0) := fun x hx => by
        have hlt : b - X.n < X.lc'.length := by rw [hX.len]; exact (List.getElem?_eq_some_iff.1 hx).1
        have := hX.blk _ x X.lc'[b - X.n] hx (by simp [hlt])
        simpa [List.getD, hlt] using this
      have hnv : ∀ x, X.g[b - X.n]? = some x → (X.lc'.getD (b - X.n) blk0).con.isOpq = false := fun x hx => by
        have h1 := hk x hx
        generalize X.lc'.getD (b - X.n) blk0 = k at h1
        obtain ⟨v, con⟩ := k
        cases con with
        | veil => cases x <;> exact h1.elim
        | _ => rfl
      split
      · rename_i t hg; exact (hnv _ hg).symm
      · rename_i hg; exact (hnv _ hg).symm
      · rename_i hg; exact (hnv _ hg).symm
      · rename_i hg
        have : X.lc'[b - X.n]? = none := by
          rw [List.getElem?_eq_none_iff, hX.len]; exact List.getElem?_eq_none_iff.1 hg
        simp only [List.getD, this, Option.getD_none, blk0, hole]
        rfl

theorem wk_grows (hX : WxOk X) (hs : Sim w M (mrg X.n h X.lc)) : Grows X.n w M w (wkM X M) where
  size := Nat.le_refl _
  ver b hb := by rw [wkM_lt hb]; exact Nat.le_refl _
  loc b hb _ := by rw [wkM_lt hb]; exact .inr rfl
  occ c _ hl := wkM_occ hl
  live c _ hl := by
    obtain ⟨b, base, hl, ho⟩ := hl
    obtain ⟨b0, h0, hb0⟩ := wkM_loc hl
    refine ⟨b0, base, h0, ?_⟩
    rcases hb0 with ⟨h1, rfl⟩ | ⟨t, h1, hg, rfl⟩
    · rw [wkM_lt h1] at ho; exact ho
    · rw [hs.opq, mrg_loc]
      have hlt : b - X.n < X.lc'.length := by rw [hX.len]; exact (List.getElem?_eq_some_iff.1 hg).1
      have hk := hX.blk _ _ X.lc'[b - X.n] hg (by simp [hlt])
      generalize X.lc'[b - X.n] = k at hk
      obtain ⟨v, con⟩ := k
      cases con with
      | cells cs' => obtain ⟨_, cs, hcs, _⟩ := hk; rw [hcs]; rfl
      | map es' => obtain ⟨_, es, hes, _⟩ := hk; rw [hes]; rfl
      | none => exact hk.elim
      | veil => exact hk.elim
  imm c _ _ := rfl
  shape c _ C' e' fr' hh := ⟨C', e', fr', hh, rfl⟩
  opq b hb _ := wkM_lt hb
  same := .refl w
end

/-- a state that tells less: some slots, and blocks that are dropped or renamed -/
theorem le_wk {n : Nat} {sl sl' : List D} {h : Heap} {lc lc' : List Blk} (g : List Src1) (hlow : LowH n h) (hX : WxOk ⟨n, lc, g, lc'⟩) (hl : sl'.length = sl.length)
    (hwk : ∀ (t : Nat) (d d' : D), sl[t]? = some d → sl'[t]? = some d' → Wk ⟨n, lc, g, lc'⟩ d d') : Le ⟨n, sl, h, lc⟩ ⟨n, sl', h, lc'⟩ := by
  refine ⟨rfl, fun a w M hs => ⟨wkM ⟨n, lc, g, lc'⟩ M, ⟨hs.defers, by rw [hs.size, hl], fun t d' v hd' hv => ?_, wk_sim hX hlow hs.sim⟩, wk_grows (X := ⟨n, lc, g, lc'⟩) hX hs.sim⟩⟩
  have ht : t < sl.length := by rw [← hl]; exact (List.getElem?_eq_some_iff.1 hd').1
  exact wk_rep hX hs.sim (hwk t _ d' (nth_get ht) hd') (hs.sl t _ v (nth_get ht) hv)

end Abs
end Go.Proofs.Ytfojedaccfenfab
