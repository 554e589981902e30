/- Calls that take live slices for data for good: the caller's blocks are dropped, and what pointed into them is data from then on. -/
import Derived.Test.YtfojedaccfenfabA24
namespace Go.Proofs.Ytfojedaccfenfab
namespace Abs
set_option linter.unusedVariables false

def dropH (H : Heap) (Z : List Nat) : Heap := fun b => if b ∈ Z then ⟨(H b).ver + 1, .none⟩ else H b
def dropM (M : Ctx) (Z : List Nat) : Ctx := fun b => if b ∈ Z then ⟨(M b).ver + 1, none, false⟩ else M b
/-- the change that drops blocks -/
def dropC (H : Heap) (Z : List Nat) : Chg := Z.map fun b => (b, ⟨(H b).ver + 1, .none⟩)

theorem app_dropC (H0 : Heap) : ∀ (Z : List Nat) (H : Heap), (∀ b, H b = H0 b ∨ H b = ⟨(H0 b).ver + 1, .none⟩) → app H (dropC H0 Z) = fun b => if b ∈ Z then ⟨(H0 b).ver + 1, .none⟩ else H b
  | [], H, _ => by funext b; simp [dropC, app]
  | z :: Z, H, hH => by
    have : app H (dropC H0 (z :: Z)) = app (upd H z ⟨(H0 z).ver + 1, .none⟩) (dropC H0 Z) := rfl
    rw [this, app_dropC H0 Z _ fun b => by
      by_cases e : b = z
      · subst e; simp [upd]
      · simp [upd, e]; exact hH b]
    funext b
    by_cases e : b = z
    · subst e; simp [upd]
    · simp [upd, e]

theorem app_drop (H : Heap) (Z : List Nat) : app H (dropC H Z) = dropH H Z := app_dropC H Z H fun b => .inl rfl

/-- a value in which what points into the blocks Z is data -/
inductive Fz (H : Heap) (Z : List Nat) : D → D → Prop
  | same (d : D) : Fz H Z d d
  | top (d : D) : Fz H Z d .top
  | nilsLst : Fz H Z .nils (.lst [])
  | empLst : Fz H Z .emp (.lst [])
  | agg (cs cs' : List D) (hl : cs'.length = cs.length) (h : ∀ (i : Nat) (c c' : D), cs[i]? = some c → cs'[i]? = some c' → Fz H Z c c') : Fz H Z (.agg cs) (.agg cs')
  | frz (sz b ver off len : Nat) (cs l : List D) (hz : b ∈ Z) (hb : H b = ⟨ver, .cells cs⟩) (hlen : l.length = len) (hfit : off + len * sz ≤ cs.length)
      (hsz : ∀ d ∈ l, d.cells.length = sz) (h : ∀ (i : Nat) (d : D), l[i]? = some d → ∀ (j : Nat) (e : D), d.cells[j]? = some e → Fz H Z (nth cs (off + i * sz + j)) e) : Fz H Z (.ref sz b ver off len) (.lst l)

def FzL (H : Heap) (Z : List Nat) : List D → List D → Prop
  | [], [] => True
  | d :: ds, d' :: ds' => Fz H Z d d' ∧ FzL H Z ds ds'
  | _, _ => False

theorem FzL.len {H : Heap} {Z : List Nat} : ∀ {ds ds' : List D}, FzL H Z ds ds' → ds'.length = ds.length
  | [], [], _ => rfl
  | [], _ :: _, h => h.elim
  | _ :: _, [], h => h.elim
  | d :: ds, d' :: ds', h => by simp [FzL.len h.2]
theorem FzL.get {H : Heap} {Z : List Nat} : ∀ {ds ds' : List D}, FzL H Z ds ds' → ∀ (i : Nat) (d d' : D), ds[i]? = some d → ds'[i]? = some d' → Fz H Z d d'
  | [], [], _, i, d, d', h1, _ => by simp at h1
  | [], _ :: _, h, _, _, _, _, _ => h.elim
  | _ :: _, [], h, _, _, _, _, _ => h.elim
  | d :: ds, d' :: ds', h, i, e, e', h1, h2 => by
    cases i with
    | zero => simp at h1 h2; subst h1; subst h2; exact h.1
    | succ i => exact FzL.get h.2 i e e' (by simpa using h1) (by simpa using h2)
theorem FzL.refl {H : Heap} {Z : List Nat} : ∀ (ds : List D), FzL H Z ds ds
  | [] => trivial
  | d :: ds => ⟨.same d, FzL.refl ds⟩

variable {w : World} {M : Ctx} {H : Heap} {Z : List Nat}

theorem dropM_occ {c : Nat} (h : Occ (dropM M Z) c) : ∃ b base, b ∉ Z ∧ (M b).loc = some (.mem c base) := by
  obtain ⟨b, base, hl⟩ := h
  unfold dropM at hl
  split at hl
  · cases hl
  · rename_i hz; exact ⟨b, base, hz, hl⟩

theorem drop_step (hs : Sim w M H) (hZ : ∀ b ∈ Z, (H b).con.isOpq = false) : Step w M w (dropM M Z) where
  size := Nat.le_refl _
  ver b := by unfold dropM; split <;> simp
  loc b e := by
    unfold dropM at e ⊢
    split
    · exact .inl rfl
    · exact .inr rfl
  occ c _ h := by obtain ⟨b, base, _, hl⟩ := dropM_occ h; exact ⟨b, base, hl⟩
  live c _ h := by
    obtain ⟨b, base, hl, ho⟩ := h
    unfold dropM at hl ho
    split at hl
    · cases hl
    · rename_i hz; rw [if_neg hz] at ho; exact ⟨b, base, hl, ho⟩
  imm c _ _ := rfl
  shape c _ C' e' fr' hh := ⟨C', e', fr', hh, rfl⟩
  known := hs.known
  opq b ho := by
    unfold dropM
    split
    · rename_i hz; rw [hs.opq, hZ b hz] at ho; cases ho
    · rfl
  same := .refl w

theorem drop_sim (hs : Sim w M H) (hZ : ∀ b ∈ Z, (H b).con.isOpq = false) : Sim w (dropM M Z) (dropH H Z) where
  ver b := by unfold dropM dropH; split <;> simp [hs.ver]
  con b := by
    unfold dropM dropH
    split
    · rfl
    · exact (hs.con b).step (drop_step hs hZ) fun c base _ => rfl
  inj b b' c base base' h h' := by
    unfold dropM at h h'
    split at h
    · cases h
    · split at h'
      · cases h'
      · exact hs.inj b b' c base base' h h'
  opq b := by
    unfold dropM dropH
    split
    · rfl
    · exact hs.opq b

theorem fz_rep (hs : Sim w M H) (hZ : ∀ b ∈ Z, (H b).con.isOpq = false) {d d' : D} (hf : Fz H Z d d') : ∀ {v : Value}, Rep w M d v → Rep w (dropM M Z) d' v := by
  induction hf with
  | same d => intro v h; exact h.step (drop_step hs hZ)
  | top d => intro v h; exact .top v
  | nilsLst => intro v h; cases h; exact .lst0 _ _
  | empLst => intro v h; cases h; exact .lst0 _ _
  | agg cs cs' hl _ ih =>
    intro v h
    cases h with
    | agg _ vs hsz h =>
      refine .agg cs' vs (by omega) fun i c v hc hv => ?_
      have hi : i < cs.length := by rw [← hl]; exact (List.getElem?_eq_some_iff.1 hc).1
      exact ih i _ c (nth_get hi) hc (h i _ v (nth_get hi) hv)
  | frz sz b ver off len cs l hz hb hlen hfit hsz _ ih =>
    intro v hr
    have hM1 := hs.ver b
    have hM2 := hs.con b
    rw [hb] at hM1 hM2
    cases hr with
    | ref _ _ _ _ _ _ hle hp h1 =>
      have hp' := hp hM1
      have hempty : ∀ a, v = .slice a 0 0 → len = 0 → Rep w (dropM M Z) (.lst l) v := fun a hv h0 => by
        subst hv; subst h0
        have : l = [] := List.eq_nil_of_length_eq_zero hlen
        subst this
        exact .lst0 _ _
      rcases hM2 with ⟨a, hloc, _⟩ | ⟨c, base, C, e, hloc, hc, hszC, hrep⟩
      · rw [hloc] at hp'; exact hempty a hp'.2.2 hp'.2.1
      · rw [hloc] at hp'
        rcases hp' with ⟨h0, a, hv⟩ | ⟨cap, rfl, hcap, hroom⟩
        · exact hempty a hv h0
        · subst hlen
          have hnl : ¬ Occ (dropM M Z) c := by
            intro ho
            obtain ⟨b', base', hb', hl'⟩ := dropM_occ ho
            have := hs.inj b' b c base' base hl' hloc
            subst this
            exact hb' hz
          have hcl : c < w.heap.size := (Array.getElem?_eq_some_iff.1 hc).1
          have hpos : ∀ (i : Nat) (d : D), l[i]? = some d → ∀ (j : Nat) (e : D), d.cells[j]? = some e → off + i * sz + j < cs.length ∧ off + i * sz + j = off + (i * sz + j) := fun i d hd j e he => by
            have hi : i < l.length := (List.getElem?_eq_some_iff.1 hd).1
            have hj : j < sz := by rw [← hsz d (List.mem_of_getElem? hd)]; exact (List.getElem?_eq_some_iff.1 he).1
            have hle : (i + 1) * sz ≤ l.length * sz := Nat.mul_le_mul_right _ hi
            rw [Nat.add_mul] at hle
            omega
          refine .lst l ⟨c, base + off, none⟩ cap sz (fun i j => C.getD (base + (off + i * sz + j)) undef) hcap rfl hcl hnl hsz (fun i d hd j e he => ?_) (fun i d hd j e he => ?_)
          · have := hpos i d hd j e he
            rw [Addr.lit_add]
            have hlt : base + (off + i * sz + j) < C.size := by omega
            simp only [World.cell?, hc]
            rw [show base + off + (i * sz + j) = base + (off + i * sz + j) by omega]
            simp [hlt]
          · obtain ⟨u, hu1, hu2⟩ := hrep _ _ (nth_get (hpos i d hd j e he).1)
            have : C.getD (base + (off + i * sz + j)) undef = u := by
              rw [Array.getD_eq_getD_getElem?, hu1]; rfl
            rw [this]
            exact ih i d hd j e he hu2

/-- the call, with the blocks dropped -/
theorem ACalls.drop {P : Program} {f : FuncId} {ds ds' : List D} {N : Nat} {R : D → Heap → List Blk → Prop} (hZ : ∀ b ∈ Z, b < N ∧ (H b).con.isOpq = false) (hH : mrg N H [] = H) (hf : FzL H Z ds' ds)
    (h : ACalls P f ds N (dropH H Z) R) : ACalls P f ds' N H R := by
  refine ⟨h.1, fun w M vs hsim hreps => ?_⟩
  rw [hH] at hsim
  have hZ' : ∀ b ∈ Z, (H b).con.isOpq = false := fun b hb => (hZ b hb).2
  have hm : mrg N (dropH H Z) [] = dropH H Z := by
    funext b
    by_cases hb : b < N
    · simp [mrg, hb]
    · have hz : b ∉ Z := fun hz => hb (hZ b hz).1
      have e : H b = blk0 := by
        rw [← hH]; simp [mrg, hb]
      simp [mrg, hb, dropH, hz, e]
  have hst := drop_step hsim hZ'
  refine (h.2 w (dropM M Z) vs (by rw [hm]; exact drop_sim hsim hZ') ⟨by rw [hreps.size, hf.len], fun i d v hd hv => ?_⟩).mono ?_
  · have hi : i < ds'.length := by rw [← hf.len]; exact (List.getElem?_eq_some_iff.1 hd).1
    exact fz_rep hsim hZ' (hf.get i _ d (nth_get hi) hd) (hreps.rep i _ v (nth_get hi) hv)
  · rintro e w' ⟨v, d, h', x, M', he, hR, hk, hS, hrep, hg⟩
    exact ⟨v, d, h', x, M', he, hR, hk, hS, hrep, (hst.grows N).trans hg⟩

theorem Pure.callZ {P : Program} {f : FuncId} {ds ds' : List D} {r : D} (hp : Pure P f ds r) {n : Nat} {sl : List D} {h : Heap} {lc : List Blk} {N : Nat} {H : Heap} {dst : Option Nat} {K : D → Chg → Prop} (ts : List Nat)
    (hN : N = n + lc.length) (hH : H = mrg n h lc) (hZ : ∀ t ∈ ts, t < lc.length ∧ (lc.getD t blk0).con.isOpq = false) (hf : FzL (mrg n h lc) (ts.map (n + ·)) ds' ds)
    (hK : K r (ts.map fun t => (n + t, ⟨lver lc t, .none⟩))) : ACalls P f ds' N H (callK (St.mk n sl h lc) dst K) := by
  subst hN; subst hH
  refine ACalls.drop (Z := ts.map (n + ·)) (fun b hb => ?_) (mrg_nil n h lc) hf ((hp _ _).mono fun d h' x ⟨h1, h2, h3⟩ => .inl ⟨ts.map fun t => (n + t, ⟨lver lc t, .none⟩), ?_, h2, ?_, by rw [h3]; exact hK⟩)
  · obtain ⟨t, ht, rfl⟩ := List.mem_map.1 hb
    rw [mrg_loc]
    exact ⟨by have := (hZ t ht).1; omega, (hZ t ht).2⟩
  · intro p hp
    obtain ⟨t, ht, rfl⟩ := List.mem_map.1 hp
    have := (hZ t ht).1
    show n + t < n + lc.length
    omega
  · rw [h1]
    have : (ts.map fun t => ((n + t, ⟨lver lc t, .none⟩) : Nat × Blk)) = dropC (mrg n h lc) (ts.map (n + ·)) := by
      unfold dropC
      rw [List.map_map]
      refine List.map_congr_left fun t _ => ?_
      simp only [Function.comp]
      rw [mrg_loc]; rfl
    rw [this]
    exact (app_drop _ _).symm

/-- the same in a region whose order is left open -/
theorem Pure.drawZ {P : Program} {f : FuncId} {ds : List D} {r : D} (hp : Pure P f ds r) {V : St} {args : List Opd} {dst : Option Nat} {g : AGuard} (ts : List Nat)
    (hZ : ∀ t ∈ ts, t < V.lc.length ∧ (V.lc.getD t blk0).con.isOpq = false)
    (hf : ∀ H : Heap, (∀ t ver cs, V.lc[t]? = some ⟨ver, .cells cs⟩ → H (V.n + t) = ⟨ver, .cells cs⟩) → FzL H (ts.map (V.n + ·)) (args.map V.val) ds) :
    stepV P ⟨dst, .call f args, g⟩ V fun d' δ' => d' = r ∧ δ' = ts.map fun t => (V.n + t, ⟨lver V.lc t, .none⟩) := by
  intro s hs
  have hget : ∀ t, (V.lc.getD t blk0).con.isOpq = false → V.lc.getD t blk0 = s.lc.getD t blk0 := fun t ho => by
    have e1 : V.blk (V.n + t) = V.lc.getD t blk0 := mrg_loc ..
    have e2 : s.blk (V.n + t) = s.lc.getD t blk0 := by rw [hs.n]; exact mrg_loc ..
    rcases hs.blk (V.n + t) with h | h
    · rw [e1] at h; rw [h] at ho; cases ho
    · rw [e1, e2] at h; exact h
  have hF := hf s.hp fun t ver cs ht => hs.hp (by
    show mrg V.n V.h V.lc (V.n + t) = _
    rw [mrg_loc]; simp [List.getD, ht])
  have hZ' : ∀ t ∈ ts, t < s.lc.length ∧ (s.lc.getD t blk0).con.isOpq = false := fun t ht => ⟨by rw [← hs.len]; exact (hZ t ht).1, by rw [← hget t (hZ t ht).2]; exact (hZ t ht).2⟩
  have hv : (ts.map fun t => ((V.n + t, ⟨lver V.lc t, .none⟩) : Nat × Blk)) = ts.map fun t => (s.n + t, ⟨lver s.lc t, .none⟩) := List.map_congr_left fun t ht => by
    unfold lver; rw [hget t (hZ t ht).2, hs.n]
  rw [hv]
  rw [hs.n] at hF ⊢
  rw [hs.len]
  cases s with
  | mk n sl h lc => exact hp.callZ ts rfl rfl hZ' hF ⟨rfl, rfl⟩

/-- a live slice of whole numbers, data from now on -/
theorem fz_int {H : Heap} {Z : List Nat} {b ver off len : Nat} {cs : List D} {l : List Int} (hz : b ∈ Z) (hb : H b = ⟨ver, .cells cs⟩) (hl : l.length = len) (hfit : off + len ≤ cs.length)
    (h : ∀ (i : Nat) (x : Int), l[i]? = some x → nth cs (off + i) = .int .i64 x) : Fz H Z (.ref 1 b ver off len) (.lst (l.map (.int .i64))) := by
  refine .frz 1 b ver off len cs _ hz hb (by simp [hl]) (by omega) (fun d hd => ?_) fun i d hd j e he => ?_
  · obtain ⟨x, _, rfl⟩ := List.mem_map.1 hd; rfl
  · simp only [List.getElem?_map, Option.map_eq_some_iff] at hd
    obtain ⟨x, hx, rfl⟩ := hd
    cases j with
    | zero => simp [D.cells] at he; subst he; rw [Nat.mul_one, Nat.add_zero, h i x hx]; exact .same _
    | succ j => simp [D.cells] at he

end Abs
end Go.Proofs.Ytfojedaccfenfab
