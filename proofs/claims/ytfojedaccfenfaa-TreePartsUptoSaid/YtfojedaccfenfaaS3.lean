/- Calls whose result lies in several blocks; Clone with the arrays along a path alive; Put. -/
import Derived.Test.YtfojedaccfenfaaA26
import Derived.Test.YtfojedaccfenfaaH2
namespace Go.Proofs.Ytfojedaccfenfaa
namespace Abs
set_option linter.unusedVariables false
set_option linter.unusedSimpArgs false
set_option maxRecDepth 20000

section
variable {P : Program} {n : Nat} {sl : List D} {h : Heap} {lc : List Blk}

theorem mrg_pad (n : Nat) (h : Heap) (lc : List Blk) (m : Nat) : mrg n h (lc ++ List.replicate m blk0) = mrg n h lc := by
  funext b
  unfold mrg
  split
  · rfl
  · simp only [List.getD, List.getElem?_append, List.getElem?_replicate]
    split
    · rfl
    · rename_i hb
      rw [List.getElem?_eq_none (by omega)]
      split <;> rfl
theorem mrg_mrg (n : Nat) (h : Heap) (a b : List Blk) : mrg (n + a.length) (mrg n h a) b = mrg n h (a ++ b) := by
  funext c
  unfold mrg
  by_cases h1 : c < n
  · simp [h1, Nat.lt_of_lt_of_le h1 (Nat.le_add_right _ _)]
  · by_cases h2 : c < n + a.length
    · have : c - n < a.length := by omega
      simp [h1, h2, List.getD, List.getElem?_append_left this]
    · have : a.length ≤ c - n := by omega
      simp [h1, h2, List.getD, List.getElem?_append_right this, Nat.sub_sub]

/-- a function's text, from a state with room for m blocks more -/
theorem Has.callsM {f : FuncId} {k : Nat} {rs : List AR} {ac : AC} (hf : Has P f k rs ac) (m : Nat) {ds : List D} {n : Nat} {h : Heap} {R : D → Heap → List Blk → Prop}
    (hbody : LowH n h → awpS P ac (FnQ rs R) (St.mk n (ds ++ List.replicate (k - ds.length) .top) h (List.replicate k blk0 ++ List.replicate m blk0))) : ACalls P f ds n h R := by
  obtain ⟨fn, c, h1, h2, h3, h4, h5, h6⟩ := hf
  refine acalls_of_awp h1 h2 h6 fun hl => ?_
  rw [h4, h5]
  have hb := hbody hl
  rw [awpS_eq, ← h3] at hb
  refine awp_le (s' := St.mk n (ds ++ List.replicate (k - ds.length) .top) h (List.replicate k blk0 ++ List.replicate m blk0)) ⟨rfl, fun a w M hs => ⟨M, ⟨hs.defers, hs.size, hs.sl, ?_⟩, .refl ..⟩⟩ (awp_sound c _ _ hb)
  show Sim w M (mrg n h (List.replicate k blk0 ++ List.replicate m blk0))
  rw [mrg_pad]
  exact hs.sim

def chgAt (b : Nat) : List Blk → Chg
  | [] => []
  | x :: l => (b, x) :: chgAt (b + 1) l

theorem chgAt_mem : ∀ (B : List Blk) (b : Nat) (p : Nat × Blk), p ∈ chgAt b B → b ≤ p.1 ∧ p.1 < b + B.length
  | [], _, _, h => by simp [chgAt] at h
  | x :: l, b, p, h => by
    rw [chgAt] at h
    rcases List.mem_cons.1 h with rfl | h
    · simp
    · have := chgAt_mem l (b + 1) p h
      simp; omega

theorem set_mid (a b : List Blk) (x y : Blk) : (a ++ x :: b).set a.length y = a ++ y :: b := by simp

theorem app_chgAt (n : Nat) (h : Heap) : ∀ (B a : List Blk), app (mrg n h (a ++ List.replicate B.length blk0)) (chgAt (n + a.length) B) = mrg n h (a ++ B)
  | [], a => rfl
  | x :: l, a => by
    rw [chgAt]
    show app (upd _ _ x) _ = _
    rw [mrg_upd_loc x (by simp), List.length_cons, List.replicate_succ, set_mid]
    have := app_chgAt n h l (a ++ [x])
    simp only [List.append_assoc, List.cons_append, List.nil_append, List.length_append, List.length_cons, List.length_nil, Nat.zero_add] at this
    exact this
theorem stapp_chgAt (n : Nat) (sl : List D) (h : Heap) : ∀ (B a : List Blk), St.app (St.mk n sl h (a ++ List.replicate B.length blk0)) (chgAt (n + a.length) B) = St.mk n sl h (a ++ B)
  | [], a => rfl
  | x :: l, a => by
    rw [chgAt]
    show St.app (St.app1 _ _) _ = _
    have h1 : St.app1 (St.mk n sl h (a ++ List.replicate (x :: l).length blk0)) (n + a.length, x) = St.mk n sl h (a ++ [x] ++ List.replicate l.length blk0) := by
      unfold St.app1
      rw [if_neg (by simp)]
      simp only [Nat.add_sub_cancel_left, List.length_cons, List.replicate_succ, set_mid, List.append_assoc, List.cons_append, List.nil_append]
    rw [h1]
    have := stapp_chgAt n sl h l (a ++ [x])
    simp only [List.append_assoc, List.cons_append, List.nil_append, List.length_append, List.length_cons, List.length_nil, Nat.zero_add] at this ⊢
    exact this

theorem fin_chgAt {a B lc : List Blk} {L : Nat} (hlc : lc = a ++ List.replicate B.length blk0) (hL : a.length = L) (dst : Option Nat) (d : D) : St.fin (St.mk n sl h lc) dst d (chgAt (n + L) B) = St.mk n (setD sl dst d) h (a ++ B) := by
  subst hlc; subst hL
  unfold St.fin
  rw [stapp_chgAt]

theorem fin_chgAt' {B lc : List Blk} {L : Nat} (hlc : lc.drop L = List.replicate B.length blk0) (hL : L ≤ lc.length) (dst : Option Nat) (d : D) : St.fin (St.mk n sl h lc) dst d (chgAt (n + L) B) = St.mk n (setD sl dst d) h (lc.take L ++ B) :=
  fin_chgAt (by rw [← hlc, List.take_append_drop]) (by simp; omega) dst d

/-- the blocks from L on, m of them, hidden -/
def veilB : Blk := ⟨0, .veil⟩
def veilAt : Nat → Nat → List Blk → List Blk
  | 0, m, l => (l.take m).map (fun _ => veilB) ++ l.drop m
  | L + 1, m, x :: l => x :: veilAt L m l
  | _ + 1, _, [] => []
theorem veil_set : ∀ (L m : Nat) (l : List Blk), (veilAt L m l).set (L + m) veilB = veilAt L (m + 1) l
  | 0, m, l => by
    simp only [veilAt, Nat.zero_add]
    by_cases h : m < l.length
    · have h1 : l.drop m = l[m] :: l.drop (m + 1) := List.drop_eq_getElem_cons h
      have h2 : l.take (m + 1) = l.take m ++ [l[m]] := List.take_succ_eq_append_getElem h
      have h3 : ((l.take m).map fun _ => veilB).length = m := by simp; omega
      rw [h2, List.map_append, List.append_assoc]
      conv => lhs; arg 2; rw [← h3]
      rw [List.set_append_right _ _ (by omega), Nat.sub_self, h1]
      rfl
    · rw [List.take_of_length_le (by omega), List.take_of_length_le (by omega), List.drop_eq_nil_of_le (by omega), List.drop_eq_nil_of_le (by omega), List.append_nil, List.set_eq_of_length_le (by simp; omega)]
  | L + 1, m, x :: l => by
    rw [veilAt, veilAt, show L + 1 + m = L + m + 1 by omega, List.set_cons_succ, veil_set L m l]
  | L + 1, m, [] => by simp [veilAt]
theorem hide_veilAt (n : Nat) (sl : List D) (h : Heap) (lc : List Blk) (L : Nat) : ∀ m, St.hide (St.mk n sl h lc) ((List.range m).map fun i => n + L + i) = St.mk n sl h (veilAt L m lc)
  | 0 => by
    have : ∀ (L : Nat) (l : List Blk), veilAt L 0 l = l := by
      intro L
      induction L with
      | zero => intro l; simp [veilAt]
      | succ L ih => intro l; cases l with | nil => rfl | cons x l => rw [veilAt, ih]
    rw [this]; rfl
  | m + 1 => by
    have ih := hide_veilAt n sl h lc L m
    rw [← veil_set, List.range_succ, List.map_append]
    unfold St.hide St.app at ih ⊢
    rw [List.map_append, List.foldl_append, ih]
    show St.app1 _ (n + L + m, veilB) = _
    unfold St.app1
    rw [if_neg (by simp only; omega)]
    simp only [show n + L + m - n = L + m by omega]
theorem cov_chgAt {n : Nat} {dc : List (List Nat)} {k : Nat} {x : DOper} {B : List Blk} {L : Nat} (hd : isEff x.o.op = true) (hk : dc.getD k [] = (List.range B.length).map fun i => n + L + i) (hh : ∀ p, n + L ≤ p → p ∉ hidOf n dc x) : covB n dc k x (chgAt (n + L) B) := by
  intro p hp
  have hm := chgAt_mem B (n + L) p hp
  refine ⟨?_, hh _ hm.1⟩
  unfold covOf
  rw [hd, hk]
  refine List.mem_append_right _ ?_
  exact List.mem_map.2 ⟨p.1 - (n + L), List.mem_range.2 (by omega), by omega⟩

/-- the result lies in blocks of its own -/
def Spn (P : Program) (f : FuncId) (ds : List D) (r : Nat → D) (B : Nat → List Blk) : Prop := ∀ (n : Nat) (h : Heap), ACalls P f ds n h fun d h' x => h' = h ∧ x = B n ∧ d = r n

theorem Spn.call {f : FuncId} {ds : List D} {r : Nat → D} {B : Nat → List Blk} (hs : Spn P f ds r B) {a : List Blk} {L : Nat} (hlc : lc = a ++ List.replicate (B (n + L)).length blk0) (hL : a.length = L)
    {N : Nat} {H : Heap} (hN : N = n + lc.length) (hH : H = mrg n h lc) {dst : Option Nat} {K : D → Chg → Prop} (hK : K (r (n + L)) (chgAt (n + L) (B (n + L)))) : ACalls P f ds N H (callK (St.mk n sl h lc) dst K) := by
  subst hN; subst hH; subst hL
  obtain ⟨hg, hc⟩ := hs (n + a.length) (mrg n h a)
  refine ⟨hg, fun w M vs hsim hreps => ?_⟩
  have hm : mrg (n + lc.length) (mrg n h lc) [] = mrg (n + a.length) (mrg n h a) [] := by
    rw [mrg_nil, mrg_nil, hlc, mrg_pad]
  rw [hm] at hsim
  refine (hc w M vs hsim hreps).mono fun e w' ⟨v, d, h', x, M', he, ⟨hh, hx, hd⟩, hv1, hsim', hrep, hgr⟩ => ?_
  subst hh; subst hx; subst hd
  refine ⟨v, _, app (mrg n h lc) (chgAt (n + a.length) (B (n + a.length))), [], M', he, .inl ⟨_, fun p hp => ?_, rfl, rfl, hK⟩, by simp, ?_, hrep, ?_⟩
  · have := chgAt_mem _ _ p hp
    show p.1 < n + lc.length
    rw [hlc]
    simp
    omega
  · have e2 : n + lc.length = n + (a ++ B (n + a.length)).length := by rw [hlc]; simp
    rw [hlc, app_chgAt, ← hlc, e2, mrg_nil, ← mrg_mrg]
    exact hsim'
  · have h0 : ∀ b, n + a.length ≤ b → (M b).ver = 0 ∧ (M b).opq = false := fun b hb => by
      have e : mrg (n + a.length) (mrg n h a) [] b = blk0 := by unfold mrg; rw [if_neg (by omega)]; simp
      exact ⟨by rw [hsim.ver, e]; rfl, by rw [hsim.opq, e]; rfl⟩
    refine ⟨hgr.size, fun b hb => ?_, fun b hb hv => ?_, hgr.occ, hgr.live, hgr.imm, hgr.shape, fun b hb ho => ?_, hgr.same⟩
    · by_cases hb' : b < n + a.length
      · exact hgr.ver b hb'
      · rw [(h0 b (by omega)).1]; omega
    · by_cases hb' : b < n + a.length
      · exact hgr.loc b hb' hv
      · left
        rw [(h0 b (by omega)).1, hsim'.ver] at hv
        have hcon := hsim'.con b
        have e : mrg (n + a.length) (mrg n h a) (B (n + a.length)) b = (B (n + a.length)).getD (b - (n + a.length)) blk0 := by unfold mrg; rw [if_neg hb']
        rw [e] at hv hcon
        cases hx : (B (n + a.length))[b - (n + a.length)]? with
        | none =>
          rw [List.getD, hx] at hcon
          exact hcon
        | some k =>
          rw [List.getD, hx] at hv
          have := hv1 k (List.mem_of_getElem? hx)
          simp at hv
          omega
    · by_cases hb' : b < n + a.length
      · exact hgr.opq b hb' ho
      · rw [(h0 b (by omega)).2] at ho; cases ho

theorem Spn.call' {f : FuncId} {ds : List D} {r : Nat → D} {B : Nat → List Blk} (hs : Spn P f ds r B) (L : Nat) (hlc : lc.drop L = List.replicate (B (n + L)).length blk0) (hL : L ≤ lc.length)
    {N : Nat} {H : Heap} (hN : N = n + lc.length) (hH : H = mrg n h lc) {dst : Option Nat} {K : D → Chg → Prop} (hK : K (r (n + L)) (chgAt (n + L) (B (n + L)))) : ACalls P f ds N H (callK (St.mk n sl h lc) dst K) :=
  hs.call (a := lc.take L) (L := L) (by rw [← hlc, List.take_append_drop]) (by simp; omega) hN hH hK

/-- the same in a region whose order is left open -/
theorem Spn.draw {f : FuncId} {ds : List D} {r : Nat → D} {B : Nat → List Blk} (hs : Spn P f ds r B) {V : St} {L : Nat} (hlc : V.lc.drop L = List.replicate (B (V.n + L)).length blk0) (hL : L ≤ V.lc.length)
    {args : List Opd} {dst : Option Nat} {g : AGuard} (ha : args.map V.val = ds) : stepV P ⟨dst, .call f args, g⟩ V fun d' δ' => d' = r (V.n + L) ∧ δ' = chgAt (V.n + L) (B (V.n + L)) := by
  intro s hsub
  rw [ha]
  have hn := hsub.n
  have hlen := hsub.len
  have key : s.lc.drop L = List.replicate (B (s.n + L)).length blk0 := by
    rw [← hn]
    refine List.ext_getElem? fun i => ?_
    rw [← hlc, List.getElem?_drop, List.getElem?_drop]
    by_cases hi : L + i < V.lc.length
    · have hv : V.lc[L + i]? = some blk0 := by
        have : (V.lc.drop L)[i]? = (List.replicate (B (V.n + L)).length blk0)[i]? := by rw [hlc]
        rw [List.getElem?_drop, List.getElem?_replicate] at this
        rw [this, if_pos]
        have hl2 : (V.lc.drop L).length = (B (V.n + L)).length := by rw [hlc]; simp
        rw [List.length_drop] at hl2
        omega
      have e1 : V.blk (V.n + (L + i)) = blk0 := by
        show mrg V.n V.h V.lc _ = _
        rw [mrg_loc, List.getD, hv]; rfl
      have e2 : s.blk (V.n + (L + i)) = s.lc.getD (L + i) blk0 := by rw [hn]; exact mrg_loc ..
      rcases hsub.blk (V.n + (L + i)) with h | h
      · rw [e1] at h; cases h
      · rw [e1, e2] at h
        have hi' : L + i < s.lc.length := by omega
        rw [List.getD, List.getElem?_eq_getElem hi'] at h
        rw [hv, List.getElem?_eq_getElem hi']
        simp at h
        rw [← h]
    · rw [List.getElem?_eq_none (by omega), List.getElem?_eq_none (by omega)]
  rw [hn] at *
  cases s with
  | mk n sl h lc =>
    simp only at key hlen hn ⊢
    refine hs.call (a := lc.take L) (L := L) (by rw [← key, List.take_append_drop]) (by simp; omega) ?_ rfl ?_
    · rw [hlen]
    · exact And.intro rfl rfl

/-- the same slots, some of them forgotten -/
def TopL : List D → List D → Prop
  | [], [] => True
  | d :: l, d' :: l' => (d' = .top ∨ d = d') ∧ TopL l l'
  | _, _ => False
theorem TopL.spec : ∀ {l l' : List D}, TopL l l' → l.length = l'.length ∧ ∀ (i : Nat) (d' : D), l'[i]? = some d' → d' = .top ∨ l[i]? = some d'
  | [], [], _ => ⟨rfl, fun i d h => by simp at h⟩
  | [], _ :: _, h => h.elim
  | _ :: _, [], h => h.elim
  | d :: l, d' :: l', ⟨h1, h2⟩ => by
    obtain ⟨q1, q2⟩ := TopL.spec h2
    refine ⟨by simp [q1], fun i x hx => ?_⟩
    cases i with
    | zero => simp at hx; subst hx; rcases h1 with h1 | h1; exact .inl h1; right; simp [h1]
    | succ i => exact q2 i x (by simpa using hx)
theorem TopL.refl : ∀ l : List D, TopL l l
  | [] => trivial
  | d :: l => ⟨.inr rfl, TopL.refl l⟩
theorem topL_nil : TopL [] [] = True := rfl
theorem topL_top {d : D} {l l' : List D} : TopL (d :: l) (.top :: l') = TopL l l' := by simp [TopL]
theorem topL_same {d : D} {l l' : List D} : TopL (d :: l) (d :: l') = TopL l l' := by simp [TopL]
theorem le_tops {sl' : List D} {h' : Heap} {lc' : List Blk} (h1 : h' = h) (h2 : lc' = lc) (ht : TopL sl sl') : Le (St.mk n sl h lc) (St.mk n sl' h' lc') := by
  subst h1; subst h2
  obtain ⟨hl, hg⟩ := ht.spec
  refine ⟨rfl, fun a w M hs => ⟨M, ⟨hs.defers, hs.size.trans hl, fun t d v hd hv => ?_, hs.sim⟩, .refl ..⟩⟩
  rcases hg t d hd with rfl | hd'
  · exact .top _
  · exact hs.sl t d v hd' hv
end

/-- the kids' cells, kid j's others -/
def kidsC (ks : List Tree) (j : Nat) (d : List D) : List D := cellsF treeD (ks.take j) ++ d ++ cellsF treeD (ks.drop (j + 1))

/-- the tree t with s at the path: its arrays along the path lie at n, n + 1, .. -/
def spD : List Int → Nat → Tree → Tree → D
  | [], _, _, s => treeD s
  | _ :: _, n, .mk r tm ks, _ => .agg [.int .i64 r, .int .i64 tm, .ref 3 n 1 0 ks.length]
def spB : List Int → Nat → Tree → Tree → List Blk
  | [], _, _, _ => []
  | j :: q, n, .mk r tm ks, s => match ks[j.toNat]? with
    | some k => ⟨1, .cells (kidsC ks j.toNat (spD q (n + 1) k s).cells)⟩ :: spB q (n + 1) k s
    | none => []

theorem spD_cells (p : List Int) (n : Nat) (t s : Tree) : (spD p n t s).cells.length = 3 := by
  cases p with
  | nil => exact treeD_cells s
  | cons j q => cases t; rfl

theorem cells_take (ks : List Tree) (j : Nat) (hj : j ≤ ks.length) : (cellsF treeD (ks.take j)).length = j * 3 := by
  rw [cellsF_len treeD treeD_cells, List.length_take, Nat.min_eq_left hj]
theorem kidsC_len {ks : List Tree} {j : Nat} {d : List D} (hj : j < ks.length) (hd : d.length = 3) : (kidsC ks j d).length = ks.length * 3 := by
  simp only [kidsC, List.length_append, cells_take ks j (by omega), hd, cellsF_len treeD treeD_cells, List.length_drop]
  omega
theorem kidsC_self {ks : List Tree} {j : Nat} (hj : j < ks.length) : kidsC ks j (treeD ks[j]).cells = cellsF treeD ks := by
  have h1 : ks = ks.take j ++ ([ks[j]] ++ ks.drop (j + 1)) := by rw [List.singleton_append, ← List.drop_eq_getElem_cons hj, List.take_append_drop]
  conv => rhs; rw [h1]
  rw [cellsF_app, cellsF_app, cellsF_one, kidsC, List.append_assoc]
theorem kidsC_splice {ks : List Tree} {j : Nat} {d e : List D} (hj : j < ks.length) (hd : d.length = 3) : (kidsC ks j d).take (j * 3) ++ e ++ (kidsC ks j d).drop (j * 3 + 3) = kidsC ks j e := by
  have hl := cells_take ks j (by omega)
  simp only [kidsC]
  rw [List.append_assoc _ d, List.take_left' hl, ← List.drop_drop, List.drop_left' hl, List.drop_left' hd]
theorem kidsC_ld {ks : List Tree} {j : Nat} {d : List D} (hj : j < ks.length) (hd : d.length = 3) : ((kidsC ks j d).drop (j * 3)).take 3 = d := by
  have hl := cells_take ks j (by omega)
  simp only [kidsC]
  rw [List.append_assoc, List.drop_left' hl, List.take_left' hd]
theorem kidsC_hi {ks : List Tree} {i j : Nat} {d : List D} (hi : i < ks.length) (hj : j < i) (hd : d.length = 3) {r t : Int} {k : List Tree} (e : ks[i] = .mk r t k) :
    ((kidsC ks j d).drop (i * 3)).take 3 = [.int .i64 r, .int .i64 t, .lst (k.map treeD)] := by
  have hl := cells_take ks j (by omega)
  have e2 : (kidsC ks j d).drop (i * 3) = (cellsF treeD (ks.drop (j + 1))).drop ((i - (j + 1)) * 3) := by
    have hlen : (cellsF treeD (ks.take j) ++ d).length = (j + 1) * 3 := by rw [List.length_append, hl, hd]; omega
    simp only [kidsC]
    rw [show i * 3 = (j + 1) * 3 + (i - (j + 1)) * 3 by omega, ← List.drop_drop, List.drop_left' hlen]
  rw [e2]
  refine cellsT_ld (ks.drop (j + 1)) (i - (j + 1)) (by simp; omega) ?_
  rw [List.getElem_drop]
  simp only [show j + 1 + (i - (j + 1)) = i by omega, e]
theorem splice_same {α : Type} (l : List α) (a : Nat) {x : List α} (h : (l.drop a).take 3 = x) : l.take a ++ x ++ l.drop (a + 3) = l := by
  rw [← h, List.append_assoc, ← List.drop_drop, List.take_append_drop, List.take_append_drop]

theorem spB_len : ∀ (p : List Int) (n : Nat) (t x s : Tree), belowT t p = some x → (spB p n t s).length = p.length
  | [], _, _, _, _, _ => rfl
  | j :: q, n, .mk r tm ks, x, s, h => by
    simp only [belowT, Option.bind_eq_some_iff] at h
    obtain ⟨k, h1, h2⟩ := h
    simp only [kidT] at h1
    split at h1
    · cases h1
    · simp only [spB, h1, List.length_cons, spB_len q (n + 1) k x s h2]

theorem spB_ver : ∀ (p : List Int) (n : Nat) (t s : Tree) (b : Blk), b ∈ spB p n t s → b.ver = 1
  | [], _, _, _, _, h => by simp [spB] at h
  | j :: q, n, .mk r tm ks, s, b, h => by
    rw [spB] at h
    split at h
    · rcases List.mem_cons.1 h with rfl | h
      · rfl
      · exact spB_ver q _ _ _ b h
    · simp at h

theorem spD_one (p : List Int) (n : Nat) (t s : Tree) : ∀ c ∈ (spD p n t s).cells, c.one = true := by
  cases p with
  | nil =>
    cases s with | mk r tm ks => rw [spD, treeD_mk]; intro c hc; simp only [D.cells, List.mem_cons, List.not_mem_nil, or_false] at hc; rcases hc with rfl | rfl | rfl <;> rfl
  | cons j q =>
    cases t with | mk r tm ks => rw [spD]; intro c hc; simp only [D.cells, List.mem_cons, List.not_mem_nil, or_false] at hc; rcases hc with rfl | rfl | rfl <;> rfl

theorem low_cells {n : Nat} {d : D} (h : Low n d) : ∀ c ∈ d.cells, Low n c := by
  intro c hc
  cases h
  case agg cs hh => exact hh c hc
  all_goals (simp only [D.cells, List.mem_singleton] at hc; subst hc; constructor; try assumption)

section
variable {X : Wx}
theorem WkL.nth {ds ds' : List D} (h : WkL X ds ds') : ∀ (j : Nat) (d' : D), ds'[j]? = some d' → Wk X (Abs.nth ds j) d' := by
  intro j d' hd
  have hj : j < ds.length := by rw [← h.len]; exact (List.getElem?_eq_some_iff.1 hd).1
  have := h.get j ds[j] d' (by simp [hj]) hd
  simpa [Abs.nth, List.getD, hj] using this

/-- the spine's root, moved -/
theorem wk_spD {p : List Int} {t0 i0 : Nat} {t x s : Tree} (hb : belowT t p = some x) (hp : p ≠ [] → X.g[i0]? = some (.old t0) ∧ (X.lc.getD t0 blk0).ver = 1 ∧ (X.lc'.getD i0 blk0).ver = 1) : Wk X (spD p (X.n + t0) t s) (spD p (X.n + i0) t s) := by
  cases p with
  | nil => exact .low _ (low_treeD _ s)
  | cons j q =>
    cases t with
    | mk r tm ks =>
      obtain ⟨h1, h2, h3⟩ := hp (by simp)
      exact wk_agg3 wk_i wk_i (wk_ref h1 rfl h2 h3 rfl)

theorem wkl_cells {d d' : D} (h : Wk X d d') (h3 : d.cells.length = 3) (h3' : d'.cells.length = 3) : WkL X d.cells d'.cells := by
  cases h
  case agg cs cs' hl h =>
    clear h3 h3'
    induction cs generalizing cs' with
    | nil => cases cs' with | nil => trivial | cons a l => simp at hl
    | cons c cs ih =>
      cases cs' with
      | nil => simp at hl
      | cons a l => exact y_wkl (h 0 c a rfl rfl) (ih l (by simpa using hl) fun i c' a' h1 h2 => h (i + 1) c' a' (by simpa using h1) (by simpa using h2))
  case low h => exact WkL.low (low_cells h)
  all_goals (simp [D.cells] at h3 h3')

theorem wkl_kidsC {ks : List Tree} {j : Nat} {d d' : List D} (h : WkL X d d') : WkL X (kidsC ks j d) (kidsC ks j d') :=
  WkL.app (WkL.app (WkL.low (low_cellsF treeD (low_treeD _) _)) h) (WkL.low (low_cellsF treeD (low_treeD _) _))

/-- the spine's arrays, moved -/
theorem blk_spB : ∀ (p : List Int) (t0 i0 : Nat) (t x s : Tree), belowT t p = some x →
    (∀ i b, (spB p (X.n + t0) t s)[i]? = some b → X.g[i0 + i]? = some (.old (t0 + i)) ∧ X.lc[t0 + i]? = some b) →
    (∀ i b, (spB p (X.n + i0) t s)[i]? = some b → X.lc'[i0 + i]? = some b) → BlkAll X ((List.range' t0 p.length).map .old) (spB p (X.n + i0) t s)
  | [], _, _, _, _, _, _, _, _ => trivial
  | j :: q, t0, i0, .mk r tm ks, x, s, hb, h1, h2 => by
    simp only [belowT, Option.bind_eq_some_iff] at hb
    obtain ⟨k, hk1, hk2⟩ := hb
    simp only [kidT] at hk1
    split at hk1
    · cases hk1
    simp only [spB, hk1] at h1 h2 ⊢
    rw [List.length_cons, List.range'_succ, List.map_cons]
    have a0 := h1 0 _ rfl
    have b0 := h2 0 _ rfl
    refine ⟨Nat.le_refl _, ⟨kidsC ks j.toNat (spD q (X.n + t0 + 1) k s).cells, ?_, ?_⟩, ?_⟩
    · have := a0.2
      simp only [Nat.add_zero] at this
      simp [List.getD, this]
    · refine wkl_kidsC (wkl_cells ?_ (spD_cells ..) (spD_cells ..))
      rw [Nat.add_assoc, Nat.add_assoc]
      refine wk_spD hk2 fun hq => ?_
      cases q with
      | nil => exact (hq rfl).elim
      | cons j2 q2 =>
        obtain ⟨r2, tm2, ks2, rfl⟩ : ∃ r t' k', k = .mk r t' k' := by cases k; exact ⟨_, _, _, rfl⟩
        have hk3 := hk2
        simp only [belowT, Option.bind_eq_some_iff] at hk3
        obtain ⟨k3, hk4, hk5⟩ := hk3
        simp only [kidT] at hk4
        split at hk4
        · cases hk4
        have a1 := h1 1
        have b1 := h2 1
        simp only [spB, hk4, List.getElem?_cons_succ, List.getElem?_cons_zero] at a1 b1
        have a1 := a1 _ rfl
        have b1 := b1 _ rfl
        refine ⟨a1.1, ?_, ?_⟩
        · simp [List.getD, a1.2]
        · simp [List.getD, b1]
    · refine blk_spB q (t0 + 1) (i0 + 1) k x s hk2 (fun i b hb => ?_) (fun i b hb => ?_)
      · have := h1 (i + 1) b (by simpa [Nat.add_assoc] using hb)
        rwa [show i0 + (i + 1) = i0 + 1 + i by omega, show t0 + (i + 1) = t0 + 1 + i by omega] at this
      · have := h2 (i + 1) b (by simpa [Nat.add_assoc] using hb)
        rwa [show i0 + (i + 1) = i0 + 1 + i by omega] at this
end

/-- what Clone hands back -/
theorem fin_spine {n : Nat} {sl : List D} {h : Heap} {lc : List Blk} {q : List Int} {r tm : Int} {ks : List Tree} {j : Nat} {k s x : Tree} (hl : LowH n h)
    (h6 : lc[6]? = some ⟨1, .cells (kidsC ks j (spD q (n + 26) k s).cells)⟩) (hlc : lc.drop 26 = spB q (n + 26) k s) (hk : ks[j]? = some k) (hj : j < ks.length) (hb : belowT k q = some x) :
    Fin (St.mk n sl h lc) (fun d h' x => h' = h ∧ x = ⟨1, .cells (kidsC ks j (spD q (n + 1) k s).cells)⟩ :: spB q (n + 1) k s ∧ d = .agg [.int .i64 r, .int .i64 tm, .ref 3 n 1 0 ks.length])
      [.agg [.int .i64 r, .int .i64 tm, .ref 3 (n + 6) 1 0 ks.length]] := by
  have hlen := spB_len q (n + 1) k x s hb
  have hlen2 := spB_len q (n + 26) k x s hb
  refine ⟨hl, .old 6 :: (List.range' 26 q.length).map .old, ⟨1, .cells (kidsC ks j (spD q (n + 1) k s).cells)⟩ :: spB q (n + 1) k s, .agg [.int .i64 r, .int .i64 tm, .ref 3 (n + 0) 1 0 ks.length], ?_, ?_, ?_, rfl, rfl, rfl⟩
  · have hblk : BlkAll ⟨n, lc, .old 6 :: (List.range' 26 q.length).map .old, ⟨1, .cells (kidsC ks j (spD q (n + 1) k s).cells)⟩ :: spB q (n + 1) k s⟩ (.old 6 :: (List.range' 26 q.length).map .old) (⟨1, .cells (kidsC ks j (spD q (n + 1) k s).cells)⟩ :: spB q (n + 1) k s) := by
      refine ⟨Nat.le_refl _, ⟨_, by simp only [List.getD, h6]; rfl, wkl_kidsC (wkl_cells (wk_spD (X := ⟨n, lc, _, _⟩) (t0 := 26) (i0 := 1) hb fun hq => ?_) (spD_cells ..) (spD_cells ..))⟩, blk_spB (X := ⟨n, lc, _, _⟩) q 26 1 k x s hb (fun i b hb => ⟨?_, ?_⟩) (fun i b hb => ?_)⟩
      · obtain ⟨b1, hb1⟩ : ∃ b, (spB q (n + 1) k s)[0]? = some b := by
          have : 0 < (spB q (n + 1) k s).length := by rw [hlen]; cases q with | nil => exact (hq rfl).elim | cons => simp
          exact ⟨_, List.getElem?_eq_getElem this⟩
        obtain ⟨b2, hb2⟩ : ∃ b, (spB q (n + 26) k s)[0]? = some b := by
          have : 0 < (spB q (n + 26) k s).length := by rw [hlen2]; cases q with | nil => exact (hq rfl).elim | cons => simp
          exact ⟨_, List.getElem?_eq_getElem this⟩
        have e2 : lc[26]? = some b2 := by rw [← hlc, List.getElem?_drop] at hb2; exact hb2
        refine ⟨?_, ?_, ?_⟩
        · cases q with
          | nil => exact (hq rfl).elim
          | cons a l => simp [List.range'_succ]
        · simp only [List.getD, e2, Option.getD_some]; exact spB_ver _ _ _ _ _ (List.mem_of_getElem? hb2)
        · simp only [List.getD, List.getElem?_cons_succ, hb1, Option.getD_some]; exact spB_ver _ _ _ _ _ (List.mem_of_getElem? hb1)
      · have hi : i < q.length := by rw [← hlen2]; exact (List.getElem?_eq_some_iff.1 hb).1
        show (_ :: List.map Src1.old (List.range' 26 q.length))[1 + i]? = _
        rw [show 1 + i = i + 1 by omega, List.getElem?_cons_succ, List.getElem?_map, List.getElem?_range' hi]
        simp
      · rw [← List.getElem?_drop, hlc]; exact hb
      · show (_ :: spB q (n + 1) k s)[1 + i]? = _
        rw [show 1 + i = i + 1 by omega, List.getElem?_cons_succ]; exact hb
    have hg := hblk.get
    refine ⟨hg.1, fun i x k h1 h2 => hg.2 i x k h1 h2, fun i j t h1 h2 => ?_⟩
    have key : ∀ (i t : Nat), (Src1.old 6 :: List.map Src1.old (List.range' 26 q.length))[i]? = some (.old t) → (i = 0 ∧ t = 6) ∨ (1 ≤ i ∧ t = 25 + i) := by
      intro i t h
      cases i with
      | zero => simp at h; omega
      | succ i =>
        rw [List.getElem?_cons_succ, List.getElem?_map] at h
        by_cases hi : i < q.length
        · rw [List.getElem?_range' hi] at h
          simp at h; omega
        · rw [List.getElem?_eq_none (by simpa using hi)] at h; cases h
    have k1 := key i t h1
    have k2 := key j t h2
    omega
  · exact wk_agg3 wk_i wk_i (wk_ref (i := 0) (t := 6) rfl rfl (by simp only [List.getD, h6]; rfl) rfl rfl)
  · intro b hb
    rcases List.mem_cons.1 hb with rfl | hb
    · exact Nat.le_refl _
    · exact Nat.le_of_eq (spB_ver _ _ _ _ _ hb).symm

set_option maxHeartbeats 4000000 in
theorem spn_Clone : ∀ (p : List Int) (t s : Tree), belowT t p = some s → full t * 40 ≤ 140737488355328 → Spn prog F_tree_Clone [treeD t] (fun n => spD p n t s) (fun n => spB p n t s)
  | [], t, s, hb, hf => by
    simp [belowT] at hb
    subst hb
    exact fun n h => (pure_CloneTree t hf n h).mono fun d h' x ⟨h1, h2, h3⟩ => ⟨h1, h2, h3⟩
  | jj :: q, .mk r tm ks, s, hb, hf => by
    intro n h
    simp only [belowT, Option.bind_eq_some_iff] at hb
    obtain ⟨k, h1, h2⟩ := hb
    simp only [kidT] at h1
    by_cases hc : r = -1 ∨ jj < 0
    · rw [if_pos hc] at h1; cases h1
    rw [if_neg hc] at h1
    obtain ⟨j, rfl⟩ : ∃ j : Nat, jj = j := ⟨jj.toNat, by omega⟩
    rw [Int.toNat_natCast] at h1
    have hj : j < ks.length := (List.getElem?_eq_some_iff.1 h1).1
    have hjk : ks[j] = k := (List.getElem?_eq_some_iff.1 h1).2
    rw [full_mk] at hf
    have hk := full_len ks
    have hfk := full_kid (List.mem_of_getElem? h1)
    have ihj := spn_Clone q k s h2 (by omega)
    have hlenB := fun N => spB_len q N k s s h2
    have hne : ks ≠ [] := by intro e; subst e; simp at hj
    simp only [spD, spB, Int.toNat_natCast, h1]
    rw [treeD_mk]
    refine K_tree_Clone.callsM q.length fun hl => ?_
    unfold C_tree_Clone
    simp -implicitDefEqProofs only [↓symPre, symPost, y_condP, y_condG, run, lver, minD, intsD, eqAll, tupD, splice, Nat.zero_add, Nat.add_zero, Nat.zero_mul, Nat.mul_one, Nat.one_mul, Nat.reduceAdd, Nat.reduceSub, Nat.reduceMul, Nat.reduceLT, Nat.reduceLeDiff, Nat.reduceEqDiff, true_and, and_true, true_implies, if_true, if_false, ite_true, reduceIte, ne_eq, not_false_eq_true, reduceCtorEq, forall_const, bne_self_eq_false, Bool.true_eq_false, Bool.false_eq_true, false_implies, and_self, implies_true, Int.toNat_zero, beq_self_eq_true, decide_true, decide_false, Bool.not_true, Bool.not_false, ↓y_call]
    refine ⟨by omega, by omega, (fresh_CloneT ks hne (by omega)).call (t := 6) (low_cellsF treeD (low_treeD 0) ks) rfl rfl ?_ rfl ?_⟩
    · simp only [List.length_cons]; omega
    simp -implicitDefEqProofs only [↓symPre, symPost, y_condP, y_condG, run, lver, minD, intsD, eqAll, tupD, splice, Nat.zero_add, Nat.add_zero, Nat.zero_mul, Nat.mul_one, Nat.one_mul, Nat.reduceAdd, Nat.reduceSub, Nat.reduceMul, Nat.reduceLT, Nat.reduceLeDiff, Nat.reduceEqDiff, true_and, and_true, true_implies, if_true, if_false, ite_true, reduceIte, ne_eq, not_false_eq_true, reduceCtorEq, forall_const, bne_self_eq_false, Bool.true_eq_false, Bool.false_eq_true, false_implies, and_self, implies_true, Int.toNat_zero, beq_self_eq_true, decide_true, decide_false, Bool.not_true, Bool.not_false, ↓y_call]
    have hc0 : ¬ r = -1 := fun h => hc (.inl h)
    refine aloop (fun p : Nat × List D × List Blk => St.mk n ([.top, .ptr (n + 1) 1 0, .ptr (n + 2) 1 0] ++ List.replicate 7 .top ++ [.int .i64 ks.length, .int .i64 p.1] ++ List.replicate 14 .top) h
        ([blk0, ⟨1, .cells [.int .i64 r, .int .i64 tm, .ref 3 (n + 6) 1 0 ks.length]⟩, ⟨1, .cells [.int .i64 0, .int .i64 0, .nils]⟩, blk0, blk0, blk0, ⟨1, .cells p.2.1⟩] ++ List.replicate 19 blk0 ++ p.2.2))
        (fun p => p.1 ≤ ks.length ∧ ((p.1 ≤ j ∧ p.2.1 = cellsF treeD ks ∧ p.2.2 = List.replicate q.length blk0) ∨ (j < p.1 ∧ p.2.1 = kidsC ks j (spD q (n + 26) k s).cells ∧ p.2.2 = spB q (n + 26) k s))) (fun p => ks.length - p.1)
        (0, cellsF treeD ks, List.replicate q.length blk0) ⟨Nat.zero_le _, .inl ⟨Nat.zero_le _, rfl, rfl⟩⟩ ?_ ?_
    · refine le_tops rfl rfl ?_
      simp only [List.replicate, List.cons_append, List.nil_append, topL_top, topL_same, topL_nil]
      exact ⟨.inr rfl, TopL.refl _⟩
    · rintro ⟨i, C, T⟩ ⟨hi, hI⟩
      simp only at hi hI
      by_cases hlt : i < ks.length
      · have f1 : (i : Int) < (ks.length : Int) := by omega
        have f0 : (0 : Int) ≤ (i : Int) := by omega
        have w1 : IntKind.i64.wrap ((i : Int) + 1) = ((i + 1 : Nat) : Int) := by rw [IntWalk.i64_in _ (by omega)]; omega
        have hm : ks[i] ∈ ks := List.getElem_mem hlt
        have ih := pure_CloneTree ks[i] (by have := full_kid (List.getElem_mem hlt); omega)
        obtain ⟨ar, at', ak, ea⟩ : ∃ r' t' k', ks[i] = .mk r' t' k' := by cases h : ks[i]; exact ⟨_, _, _, rfl⟩
        have hCl : C.length = ks.length * 3 := by
          rcases hI with ⟨_, rfl, _⟩ | ⟨_, rfl, _⟩
          · exact cellsF_len treeD treeD_cells ks
          · exact kidsC_len hj (spD_cells ..)
        have hll : i * 3 + 3 ≤ C.length := by omega
        have hld : (C.drop (i * 3)).take 3 = [.int .i64 ar, .int .i64 at', .lst (ak.map treeD)] := by
          rcases hI with ⟨_, rfl, _⟩ | ⟨_, rfl, _⟩
          · exact cellsT_ld ks i hlt ea
          · exact kidsC_hi hlt (by omega) (spD_cells ..) ea
        rw [ea, treeD_mk] at ih
        by_cases hij : i = j
        · obtain ⟨rfl, rfl⟩ : C = cellsF treeD ks ∧ T = List.replicate q.length blk0 := by
            rcases hI with ⟨_, a2, a3⟩ | ⟨a1, _⟩
            · exact ⟨a2, a3⟩
            · omega
          subst hij
          have hek : k = .mk ar at' ak := by rw [← hjk, ea]
          rw [hek, treeD_mk] at ihj
          rw [← hek] at ihj
          simp -implicitDefEqProofs only [↓symPre, symPost, y_condP, y_condG, run, lver, minD, intsD, eqAll, tupD, splice, Nat.zero_add, Nat.add_zero, Nat.zero_mul, Nat.mul_one, Nat.one_mul, Nat.reduceAdd, Nat.reduceSub, Nat.reduceMul, Nat.reduceLT, Nat.reduceLeDiff, Nat.reduceEqDiff, true_and, and_true, true_implies, if_true, if_false, ite_true, reduceIte, ne_eq, not_false_eq_true, reduceCtorEq, forall_const, bne_self_eq_false, Bool.true_eq_false, Bool.false_eq_true, false_implies, and_self, implies_true, Int.toNat_zero, beq_self_eq_true, decide_true, decide_false, Bool.not_true, Bool.not_false, ↓y_call, f1, decide_true]
          refine adrawq hmix [[], [], [], [], [], [], [], [], (List.range q.length).map (n + 26 + ·), [], [n + 6]] ?_
          simp (maxSteps := 400000) -implicitDefEqProofs only [↓symPre, symPost, y_condP, y_condG, run, lver, minD, intsD, eqAll, tupD, splice, Nat.zero_add, Nat.add_zero, Nat.zero_mul, Nat.mul_one, Nat.one_mul, Nat.reduceAdd, Nat.reduceSub, Nat.reduceMul, Nat.reduceLT, Nat.reduceLeDiff, Nat.reduceEqDiff, true_and, and_true, true_implies, if_true, if_false, ite_true, reduceIte, ne_eq, not_false_eq_true, reduceCtorEq, forall_const, bne_self_eq_false, Bool.true_eq_false, Bool.false_eq_true, false_implies, and_self, implies_true, Int.toNat_zero, beq_self_eq_true, decide_true, decide_false, Bool.not_true, Bool.not_false, ↓y_call, ↓drawPre, drawPost, isCall, isNew, isEff, Option.toList, or_false, false_or, cond_true, cond_false, not_true_eq_false, or_true, true_or, Nat.add_left_cancel_iff, Bool.false_eq_true, f1, f0, hlt, Int.toNat_natCast, hld, hll, List.getD_cons_succ, List.getD_cons_zero, hide_veilAt, veilAt]
          have hlB := hlenB (n + 26)
          refine ⟨_, _, ihj.draw (L := 26) (by rw [hlB]; rfl) (by simp only [List.length_cons]; omega) rfl, cov_chgAt rfl (by rw [hlB]; rfl) (fun p hp => by simp [y_hid]), ?_⟩
          rw [fin_chgAt' (L := 26) (by rw [hlB]; rfl) (by simp only [List.length_cons]; omega)]
          have hone := spD_one q (n + 26) k s
          have hcl := spD_cells q (n + 26) k s
          have hsp := fun e => @kidsC_splice ks i (treeD ks[i]).cells e hj (treeD_cells _)
          simp only [kidsC_self hj] at hsp
          simp (maxSteps := 400000) -implicitDefEqProofs only [↓symPre, symPost, y_condP, y_condG, run, lver, minD, intsD, eqAll, tupD, splice, Nat.zero_add, Nat.add_zero, Nat.zero_mul, Nat.mul_one, Nat.one_mul, Nat.reduceAdd, Nat.reduceSub, Nat.reduceMul, Nat.reduceLT, Nat.reduceLeDiff, Nat.reduceEqDiff, true_and, and_true, true_implies, if_true, if_false, ite_true, reduceIte, ne_eq, not_false_eq_true, reduceCtorEq, forall_const, bne_self_eq_false, Bool.true_eq_false, Bool.false_eq_true, false_implies, and_self, implies_true, Int.toNat_zero, beq_self_eq_true, decide_true, decide_false, Bool.not_true, Bool.not_false, ↓y_call, ↓drawPre, drawPost, isCall, isNew, isEff, Option.toList, or_false, false_or, cond_true, cond_false, not_true_eq_false, or_true, true_or, Nat.add_left_cancel_iff, Bool.false_eq_true, f1, f0, hlt, Int.toNat_natCast, hld, hll, w1, List.getD_cons_succ, List.getD_cons_zero, hcl, hone, List.take_succ_cons, List.take_zero]
          rw [hsp]
          refine ⟨hone, (i + 1, kidsC ks i (spD q (n + 26) k s).cells, spB q (n + 26) k s), ⟨by simp only; omega, .inr ⟨by simp only; omega, rfl, rfl⟩⟩, by simp only; omega, ?_⟩
          refine le_tops rfl rfl ?_
          simp only [List.replicate, List.cons_append, List.nil_append, topL_top, topL_same, topL_nil]
        · have hsp := splice_same C (i * 3) hld
          simp -implicitDefEqProofs only [↓symPre, symPost, y_condP, y_condG, run, lver, minD, intsD, eqAll, tupD, splice, Nat.zero_add, Nat.add_zero, Nat.zero_mul, Nat.mul_one, Nat.one_mul, Nat.reduceAdd, Nat.reduceSub, Nat.reduceMul, Nat.reduceLT, Nat.reduceLeDiff, Nat.reduceEqDiff, true_and, and_true, true_implies, if_true, if_false, ite_true, reduceIte, ne_eq, not_false_eq_true, reduceCtorEq, forall_const, bne_self_eq_false, Bool.true_eq_false, Bool.false_eq_true, false_implies, and_self, implies_true, Int.toNat_zero, beq_self_eq_true, decide_true, decide_false, Bool.not_true, Bool.not_false, ↓y_call, f1, decide_true]
          refine adrawq hmix [[], [], [], [], [], [], [], [], [], [], [n + 6]] ?_
          simp (maxSteps := 400000) -implicitDefEqProofs only [↓symPre, symPost, y_condP, y_condG, run, lver, minD, intsD, eqAll, tupD, splice, Nat.zero_add, Nat.add_zero, Nat.zero_mul, Nat.mul_one, Nat.one_mul, Nat.reduceAdd, Nat.reduceSub, Nat.reduceMul, Nat.reduceLT, Nat.reduceLeDiff, Nat.reduceEqDiff, true_and, and_true, true_implies, if_true, if_false, ite_true, reduceIte, ne_eq, not_false_eq_true, reduceCtorEq, forall_const, bne_self_eq_false, Bool.true_eq_false, Bool.false_eq_true, false_implies, and_self, implies_true, Int.toNat_zero, beq_self_eq_true, decide_true, decide_false, Bool.not_true, Bool.not_false, ↓y_call, ↓drawPre, drawPost, isCall, isNew, isEff, Option.toList, or_false, false_or, cond_true, cond_false, not_true_eq_false, or_true, true_or, Nat.add_left_cancel_iff, Bool.false_eq_true, f1, f0, hlt, Int.toNat_natCast, hld, hll, List.getD_cons_succ, List.getD_cons_zero]
          refine ⟨_, _, ih.draw rfl, (by simp [y_cov0, y_cov1, isNew, isEff, Option.toList]), ?_⟩
          simp (maxSteps := 400000) -implicitDefEqProofs only [↓symPre, symPost, y_condP, y_condG, run, lver, minD, intsD, eqAll, tupD, splice, Nat.zero_add, Nat.add_zero, Nat.zero_mul, Nat.mul_one, Nat.one_mul, Nat.reduceAdd, Nat.reduceSub, Nat.reduceMul, Nat.reduceLT, Nat.reduceLeDiff, Nat.reduceEqDiff, true_and, and_true, true_implies, if_true, if_false, ite_true, reduceIte, ne_eq, not_false_eq_true, reduceCtorEq, forall_const, bne_self_eq_false, Bool.true_eq_false, Bool.false_eq_true, false_implies, and_self, implies_true, Int.toNat_zero, beq_self_eq_true, decide_true, decide_false, Bool.not_true, Bool.not_false, ↓y_call, ↓drawPre, drawPost, isCall, isNew, isEff, Option.toList, or_false, false_or, cond_true, cond_false, not_true_eq_false, or_true, true_or, Nat.add_left_cancel_iff, Bool.false_eq_true, f1, f0, hlt, Int.toNat_natCast, hld, hll, w1, List.getD_cons_succ, List.getD_cons_zero]
          rw [hsp]
          refine ⟨by rintro c (rfl | rfl | rfl) <;> rfl, (i + 1, C, T), ⟨by simp only; omega, ?_⟩, by simp only; omega, ?_⟩
          · rcases hI with ⟨a1, a2, a3⟩ | ⟨a1, a2, a3⟩
            · exact .inl ⟨by simp only; omega, a2, a3⟩
            · exact .inr ⟨by simp only; omega, a2, a3⟩
          · refine le_tops rfl rfl ?_
            simp only [List.replicate, List.cons_append, List.nil_append, topL_top, topL_same, topL_nil]
      · have f1 : ¬ (i : Int) < (ks.length : Int) := by omega
        simp -implicitDefEqProofs only [↓symPre, symPost, y_condP, y_condG, run, lver, minD, intsD, eqAll, tupD, splice, Nat.zero_add, Nat.add_zero, Nat.zero_mul, Nat.mul_one, Nat.one_mul, Nat.reduceAdd, Nat.reduceSub, Nat.reduceMul, Nat.reduceLT, Nat.reduceLeDiff, Nat.reduceEqDiff, true_and, and_true, true_implies, if_true, if_false, ite_true, reduceIte, ne_eq, not_false_eq_true, reduceCtorEq, forall_const, bne_self_eq_false, Bool.true_eq_false, Bool.false_eq_true, false_implies, and_self, implies_true, Int.toNat_zero, beq_self_eq_true, decide_true, decide_false, Bool.not_true, Bool.not_false, ↓y_call, f1, decide_false]
        have hil : i = ks.length := by omega
        obtain ⟨_, rfl, rfl⟩ : j < i ∧ C = kidsC ks j (spD q (n + 26) k s).cells ∧ T = spB q (n + 26) k s := by
          rcases hI with ⟨a1, _⟩ | h
          · omega
          · exact h
        have hlB := hlenB (n + 1)
        exact fin_spine hl rfl rfl h1 hj h2

def withT : List Int → Tree → Tree → Tree
  | [], _, s => s
  | j :: q, .mk r tm ks, s => match ks[j.toNat]? with
    | some k => .mk r tm (ks.take j.toNat ++ withT q k s :: ks.drop (j.toNat + 1))
    | none => .mk r tm ks

theorem below_cons_iff {r tm : Int} {ks : List Tree} {j : Int} {q : List Int} {x : Tree} (h : belowT (.mk r tm ks) (j :: q) = some x) :
    ¬ r = -1 ∧ 0 ≤ j ∧ j.toNat < ks.length ∧ ∃ k, ks[j.toNat]? = some k ∧ belowT k q = some x := by
  simp only [belowT, Option.bind_eq_some_iff] at h
  obtain ⟨k, h1, h2⟩ := h
  simp only [kidT] at h1
  by_cases hc : r = -1 ∨ j < 0
  · rw [if_pos hc] at h1; cases h1
  rw [if_neg hc] at h1
  exact ⟨fun h => hc (.inl h), by omega, (List.getElem?_eq_some_iff.1 h1).1, k, h1, h2⟩

theorem spD_agg (p : List Int) (n : Nat) (t s : Tree) : spD p n t s = .agg (spD p n t s).cells := by
  cases p with
  | nil => cases s; rw [spD, treeD_mk]; rfl
  | cons j q => cases t; rfl

/-- the spine's i-th array -/
theorem spB_at : ∀ (p : List Int) (N : Nat) (t x : Tree) (i : Nat) (hi : i < p.length), belowT t p = some x →
    ∃ (C : List D) (ti : Tree), (spB p N t x)[i]? = some ⟨1, .cells C⟩ ∧ p[i].toNat * 3 + 3 ≤ C.length ∧ (C.drop (p[i].toNat * 3)).take 3 = (spD (p.drop (i + 1)) (N + i + 1) ti x).cells ∧ belowT ti (p.drop (i + 1)) = some x
  | j :: q, N, .mk r tm ks, x, 0, hi, hb => by
    obtain ⟨h1, h2, h3, k, h4, h5⟩ := below_cons_iff hb
    refine ⟨kidsC ks j.toNat (spD q (N + 1) k x).cells, k, by simp only [spB, h4, List.getElem?_cons_zero], ?_, ?_, h5⟩
    · rw [List.getElem_cons_zero, kidsC_len h3 (spD_cells ..)]; omega
    · rw [List.getElem_cons_zero, kidsC_ld h3 (spD_cells ..)]; rfl
  | j :: q, N, .mk r tm ks, x, i + 1, hi, hb => by
    obtain ⟨h1, h2, h3, k, h4, h5⟩ := below_cons_iff hb
    obtain ⟨C, ti, a1, a2, a3, a4⟩ := spB_at q (N + 1) k x i (by simpa using hi) h5
    refine ⟨C, ti, by simp only [spB, h4, List.getElem?_cons_succ, a1], by simpa using a2, ?_, by simpa using a4⟩
    simp only [List.getElem_cons_succ, List.drop_succ_cons]
    rw [a3, show N + 1 + i + 1 = N + (i + 1) + 1 by omega]

/-- another tree put at the spine's end -/
theorem spB_put : ∀ (p : List Int) (N : Nat) (t x s : Tree) (i : Nat) (hi : i < p.length) (C : List D), i + 1 = p.length → belowT t p = some x → (spB p N t x)[i]? = some ⟨1, .cells C⟩ →
    (spB p N t x).set i ⟨1, .cells (C.take (p[i].toNat * 3) ++ (treeD s).cells ++ C.drop (p[i].toNat * 3 + 3))⟩ = spB p N t s
  | [j], N, .mk r tm ks, x, s, 0, hi, C, hl, hb, hC => by
    obtain ⟨h1, h2, h3, k, h4, h5⟩ := below_cons_iff hb
    simp only [spB, h4, List.getElem?_cons_zero, Option.some.injEq, Blk.mk.injEq, Con.cells.injEq, true_and] at hC
    subst hC
    simp only [spB, h4, List.getElem_cons_zero, List.set_cons_zero]
    rw [kidsC_splice h3 (spD_cells ..)]
    rfl
  | j :: j2 :: q, N, .mk r tm ks, x, s, i + 1, hi, C, hl, hb, hC => by
    obtain ⟨h1, h2, h3, k, h4, h5⟩ := below_cons_iff hb
    rw [spB, h4] at hC ⊢
    rw [spB, h4]
    simp only [List.getElem?_cons_succ] at hC
    have ih := spB_put (j2 :: q) (N + 1) k x s i (by simpa using hi) C (by simpa using hl) h5 hC
    simp only [List.set_cons_succ, List.getElem_cons_succ]
    have e : spD (j2 :: q) (N + 1) k x = spD (j2 :: q) (N + 1) k s := by cases k; rfl
    rw [← ih, e]
  | j :: j2 :: q, N, .mk r tm ks, x, s, 0, hi, C, hl, hb, hC => by simp at hl
  | [j], N, .mk r tm ks, x, s, i + 1, hi, C, hl, hb, hC => by simp at hi

/-- the spine, held to be data -/
theorem wk_frz_spD {X : Wx} (hg : X.g = []) : ∀ (p : List Int) (t0 : Nat) (t x s : Tree), belowT t p = some x → (∀ i b, (spB p (X.n + t0) t s)[i]? = some b → X.lc[t0 + i]? = some b) → Wk X (spD p (X.n + t0) t s) (treeD (withT p t s))
  | [], t0, t, x, s, hb, h => .low _ (low_treeD _ s)
  | j :: q, t0, .mk r tm ks, x, s, hb, h => by
    obtain ⟨h1, h2, h3, k, h4, h5⟩ := below_cons_iff hb
    simp only [spB, h4] at h
    have h0 := h 0 _ rfl
    simp only [withT, h4, spD]
    rw [treeD_mk]
    have ih := wk_frz_spD hg q (t0 + 1) k x s h5 (fun i b hb => by
      have := h (i + 1) b (by simpa [Nat.add_assoc] using hb)
      rwa [show t0 + (i + 1) = t0 + 1 + i by omega] at this)
    have hW : WkL X (kidsC ks j.toNat (spD q (X.n + t0 + 1) k s).cells) (cellsF treeD (ks.take j.toNat ++ withT q k s :: ks.drop (j.toNat + 1))) := by
      rw [show ks.take j.toNat ++ withT q k s :: ks.drop (j.toNat + 1) = ks.take j.toNat ++ [withT q k s] ++ ks.drop (j.toNat + 1) by simp, cellsF_app, cellsF_app, cellsF_one]
      refine WkL.app (WkL.app (WkL.low (low_cellsF treeD (low_treeD _) _)) (wkl_cells ?_ (spD_cells ..) (treeD_cells _))) (WkL.low (low_cellsF treeD (low_treeD _) _))
      rw [Nat.add_assoc]
      exact ih
    refine wk_agg3 wk_i wk_i (.frz 3 t0 1 0 ks.length (kidsC ks j.toNat (spD q (X.n + t0 + 1) k s).cells) _ (by simpa using h0) (by simp [hg]) ?_ ?_ ?_ fun i d hd j' e he => ?_)
    · simp; omega
    · rw [kidsC_len h3 (spD_cells ..)]; omega
    · intro d hd
      obtain ⟨t', _, rfl⟩ := List.mem_map.1 hd
      exact treeD_cells t'
    · rw [List.getElem?_map, Option.map_eq_some_iff] at hd
      obtain ⟨t', ht', rfl⟩ := hd
      rw [Nat.zero_add]
      exact hW.nth _ _ (cellsF_get treeD treeD_cells _ i j' t' e ht' he)

theorem pure_PutBad (t s : Tree) (p : List Int) (hf : full t * 40 ≤ 140737488355328) (hp : p.length < 2 ^ 60) (hb : belowT t p = none) : Pure prog F_tree_Put [treeD t, iD p, treeD s] (.tup [treeD zeroT, .int .i64 5]) := by
  intro n h
  have pA := pure_At t p hf hp
  rw [show atT t p = (zeroT, 5) by rw [atT, hb]] at pA
  simp only at pA
  rw [treeD_zero] at pA ⊢
  obtain ⟨r0, t0, k0, rfl⟩ : ∃ r t' k, t = .mk r t' k := by cases t; exact ⟨_, _, _, rfl⟩
  obtain ⟨r1, t1, k1, rfl⟩ : ∃ r t' k, s = .mk r t' k := by cases s; exact ⟨_, _, _, rfl⟩
  rw [treeD_mk] at pA ⊢
  rw [treeD_mk]
  refine K_tree_Put.calls fun hl => ?_
  unfold C_tree_Put
  have z5 : ((5 : Int) != 0) = true := by decide
  simp -implicitDefEqProofs only [↓symPre, symPost, y_condP, y_condG, run, lver, minD, intsD, eqAll, tupD, splice, Nat.zero_add, Nat.add_zero, Nat.zero_mul, Nat.mul_one, Nat.one_mul, Nat.reduceAdd, Nat.reduceSub, Nat.reduceMul, Nat.reduceLT, Nat.reduceLeDiff, Nat.reduceEqDiff, true_and, and_true, true_implies, if_true, if_false, ite_true, reduceIte, ne_eq, not_false_eq_true, reduceCtorEq, forall_const, bne_self_eq_false, Bool.true_eq_false, Bool.false_eq_true, false_implies, and_self, implies_true, Int.toNat_zero, beq_self_eq_true, decide_true, decide_false, Bool.not_true, Bool.not_false, ↓y_call]
  refine pA.call rfl ?_
  simp -implicitDefEqProofs only [↓symPre, symPost, y_condP, y_condG, run, lver, minD, intsD, eqAll, tupD, splice, Nat.zero_add, Nat.add_zero, Nat.zero_mul, Nat.mul_one, Nat.one_mul, Nat.reduceAdd, Nat.reduceSub, Nat.reduceMul, Nat.reduceLT, Nat.reduceLeDiff, Nat.reduceEqDiff, true_and, and_true, true_implies, if_true, if_false, ite_true, reduceIte, ne_eq, not_false_eq_true, reduceCtorEq, forall_const, bne_self_eq_false, Bool.true_eq_false, Bool.false_eq_true, false_implies, and_self, implies_true, Int.toNat_zero, beq_self_eq_true, decide_true, decide_false, Bool.not_true, Bool.not_false, ↓y_call, z5]
  exact fin_wk hl (wk_tup2 (wk_agg3 wk_i wk_i .nilsLst) wk_i) ⟨rfl, rfl, rfl⟩

set_option maxHeartbeats 4000000 in
theorem pure_Put (t s x : Tree) (p : List Int) (hf : full t * 40 ≤ 140737488355328) (hfs : full s * 40 ≤ 140737488355328) (hp : p.length < 2 ^ 60) (hb : belowT t p = some x) : Pure prog F_tree_Put [treeD t, iD p, treeD s] (.tup [treeD (withT p t s), .int .i64 0]) := by
  intro n h
  have pA := pure_At t p hf hp
  rw [show atT t p = (x, 0) by rw [atT, hb]] at pA
  simp only at pA
  have pC := spn_Clone p t x hb hf
  have pS := pure_CloneTree s hfs
  have hlB := spB_len p (n + 44) t x x hb
  obtain ⟨rx, tx, kx, ex⟩ : ∃ r t' k, x = .mk r t' k := by cases x; exact ⟨_, _, _, rfl⟩
  have exD : treeD x = .agg [.int .i64 rx, .int .i64 tx, .lst (kx.map treeD)] := by rw [ex, treeD_mk]
  obtain ⟨r0, t0, k0, et⟩ : ∃ r t' k, t = .mk r t' k := by cases t; exact ⟨_, _, _, rfl⟩
  have etD : treeD t = .agg [.int .i64 r0, .int .i64 t0, .lst (k0.map treeD)] := by rw [et, treeD_mk]
  obtain ⟨r1, t1, k1, es⟩ : ∃ r t' k, s = .mk r t' k := by cases s; exact ⟨_, _, _, rfl⟩
  have esD : treeD s = .agg [.int .i64 r1, .int .i64 t1, .lst (k1.map treeD)] := by rw [es, treeD_mk]
  rw [exD] at pA
  rw [etD] at pA pC ⊢
  rw [esD] at pS ⊢
  refine K_tree_Put.callsM p.length fun hl => ?_
  unfold C_tree_Put
  simp -implicitDefEqProofs only [↓symPre, symPost, y_condP, y_condG, run, lver, minD, intsD, eqAll, tupD, splice, Nat.zero_add, Nat.add_zero, Nat.zero_mul, Nat.mul_one, Nat.one_mul, Nat.reduceAdd, Nat.reduceSub, Nat.reduceMul, Nat.reduceLT, Nat.reduceLeDiff, Nat.reduceEqDiff, true_and, and_true, true_implies, if_true, if_false, ite_true, reduceIte, ne_eq, not_false_eq_true, reduceCtorEq, forall_const, bne_self_eq_false, Bool.true_eq_false, Bool.false_eq_true, false_implies, and_self, implies_true, Int.toNat_zero, beq_self_eq_true, decide_true, decide_false, Bool.not_true, Bool.not_false, ↓y_call]
  refine ⟨by omega, by omega, by omega, pA.call rfl ?_⟩
  have z0 : ((0 : Int) != 0) = false := by decide
  simp -implicitDefEqProofs only [↓symPre, symPost, y_condP, y_condG, run, lver, minD, intsD, eqAll, tupD, splice, Nat.zero_add, Nat.add_zero, Nat.zero_mul, Nat.mul_one, Nat.one_mul, Nat.reduceAdd, Nat.reduceSub, Nat.reduceMul, Nat.reduceLT, Nat.reduceLeDiff, Nat.reduceEqDiff, true_and, and_true, true_implies, if_true, if_false, ite_true, reduceIte, ne_eq, not_false_eq_true, reduceCtorEq, forall_const, bne_self_eq_false, Bool.true_eq_false, Bool.false_eq_true, false_implies, and_self, implies_true, Int.toNat_zero, beq_self_eq_true, decide_true, decide_false, Bool.not_true, Bool.not_false, ↓y_call, z0]
  refine ⟨by omega, pC.call' 44 ?_ ?_ ?_ ?_ ?_⟩
  · rw [hlB]; rfl
  · simp only [List.length_cons]; omega
  · rfl
  · rfl
  rw [fin_chgAt' (L := 44) (by rw [hlB]; rfl) (by simp only [List.length_cons]; omega)]
  have hc3 := spD_cells p (n + 44) t x
  have hone := spD_one p (n + 44) t x
  simp -implicitDefEqProofs only [↓symPre, symPost, y_condP, y_condG, run, lver, minD, intsD, eqAll, tupD, splice, Nat.zero_add, Nat.add_zero, Nat.zero_mul, Nat.mul_one, Nat.one_mul, Nat.reduceAdd, Nat.reduceSub, Nat.reduceMul, Nat.reduceLT, Nat.reduceLeDiff, Nat.reduceEqDiff, true_and, and_true, true_implies, if_true, if_false, ite_true, reduceIte, ne_eq, not_false_eq_true, reduceCtorEq, forall_const, bne_self_eq_false, Bool.true_eq_false, Bool.false_eq_true, false_implies, and_self, implies_true, Int.toNat_zero, beq_self_eq_true, decide_true, decide_false, Bool.not_true, Bool.not_false, ↓y_call, List.take_succ_cons, List.take_zero, hc3]
  obtain ⟨LC, hLC⟩ : ∃ LC : List Blk, LC = [blk0, blk0, blk0, ⟨1, .cells [.int .i64 r0, .int .i64 t0, .lst (k0.map treeD)]⟩, blk0, ⟨1, .cells [.int .i64 r1, .int .i64 t1, .lst (k1.map treeD)]⟩, ⟨1, .cells [.int .i64 0, .int .i64 0, .nils]⟩, blk0,
    ⟨1, .cells [.int .i64 rx, .int .i64 tx, .lst (kx.map treeD)]⟩, blk0, ⟨1, .cells (spD p (n + 44) t x).cells⟩] ++ List.replicate 33 blk0 ++ spB p (n + 44) t x := ⟨_, rfl⟩
  have h5 : LC.getD 5 blk0 = ⟨1, .cells [.int .i64 r1, .int .i64 t1, .lst (k1.map treeD)]⟩ := by rw [hLC]; rfl
  have h6 : LC.getD 6 blk0 = ⟨1, .cells [.int .i64 0, .int .i64 0, .nils]⟩ := by rw [hLC]; rfl
  have h10 : LC.getD 10 blk0 = ⟨1, .cells (spD p (n + 44) t x).cells⟩ := by rw [hLC]; rfl
  have hdrop : LC.drop 44 = spB p (n + 44) t x := by rw [hLC]; rfl
  have hgd : ∀ i B, (spB p (n + 44) t x)[i]? = some B → LC.getD (44 + i) blk0 = B := fun i B h => by
    rw [← hdrop, List.getElem?_drop] at h
    rw [List.getD, h]; rfl
  refine ⟨by omega, hone, ?_⟩
  refine aloop (fun q : Nat × Nat × Nat => St.mk n ([.top, .top, .top, .ptr (n + 3) 1 0, .top, .ptr (n + 5) 1 0, .ptr (n + 6) 1 0, .top, .top, .top, .ptr (n + 10) 1 0, .ptr (n + q.2.1) 1 q.2.2] ++ List.replicate 14 .top ++ [iD p, .int .i64 p.length, .int .i64 q.1] ++ List.replicate 15 .top) h LC)
      (fun q => q.1 ≤ p.length ∧ (∃ (C : List D) (ti : Tree), LC.getD q.2.1 blk0 = ⟨1, .cells C⟩ ∧ q.2.2 + 3 ≤ C.length ∧ (C.drop q.2.2).take 3 = (spD (p.drop q.1) (n + (44 + q.1)) ti x).cells ∧ belowT ti (p.drop q.1) = some x) ∧
        ((q.1 = 0 ∧ q.2.1 = 10 ∧ q.2.2 = 0) ∨ ∃ (i : Nat) (hi : i < p.length), q.1 = i + 1 ∧ q.2.1 = 44 + i ∧ q.2.2 = p[i].toNat * 3)) (fun q => p.length - q.1) (0, 10, 0)
      ⟨Nat.zero_le _, ⟨_, t, h10, by rw [hc3]; exact Nat.le_refl _, by rw [List.drop_zero, List.drop_zero, List.take_of_length_le (by rw [hc3]; exact Nat.le_refl _)]; rfl, by rw [List.drop_zero]; exact hb⟩, .inl ⟨rfl, rfl, rfl⟩⟩ ?_ ?_
  · refine le_tops rfl (hLC.trans rfl) ?_
    simp only [List.replicate, List.cons_append, List.nil_append, topL_top, topL_same, topL_nil, List.length_map]
    exact ⟨.inr rfl, TopL.refl _⟩
  · rintro ⟨i, tb, off⟩ ⟨hi, ⟨C, ti, hC1, hC2, hC3, hbi⟩, hor⟩
    simp only at hi hC1 hC2 hC3 hbi hor
    by_cases hlt : i < p.length
    · have f1 : (i : Int) < (p.length : Int) := by omega
      have f0 : (0 : Int) ≤ (i : Int) := by omega
      have w1 : IntKind.i64.wrap ((i : Int) + 1) = ((i + 1 : Nat) : Int) := by rw [IntWalk.i64_in _ (by omega)]; omega
      have e0 := nth_ints p i hlt
      obtain ⟨C', ti', q1, q2, q3, q4⟩ := spB_at p (n + 44) t x i hlt hb
      have hg := hgd i _ q1
      rw [List.drop_eq_getElem_cons hlt] at hC3 hbi
      obtain ⟨cr, ct, ck, rfl⟩ : ∃ r t' k, ti = .mk r t' k := by cases ti; exact ⟨_, _, _, rfl⟩
      obtain ⟨g1, g2, g3, k, g4, g5⟩ := below_cons_iff hbi
      have g2' : p[i] < (ck.length : Int) := by omega
      have hn : nth C (off + 2) = .ref 3 (n + (44 + i)) 1 0 ck.length := by
        have : ((C.drop off).take 3)[2]? = some (.ref 3 (n + (44 + i)) 1 0 ck.length) := by rw [hC3]; rfl
        rw [List.getElem?_take, List.getElem?_drop] at this
        have this : C[off + 2]? = some (.ref 3 (n + (44 + i)) 1 0 ck.length) := by simpa using this
        simp [nth, List.getD, this]
      have hC0 : C ≠ [] := by intro e; rw [e] at hC2; simp at hC2
      have hC4 : off + 2 < C.length := by omega
      simp -implicitDefEqProofs only [↓symPre, symPost, y_condP, y_condG, run, lver, minD, intsD, eqAll, tupD, splice, Nat.zero_add, Nat.add_zero, Nat.zero_mul, Nat.mul_one, Nat.one_mul, Nat.reduceAdd, Nat.reduceSub, Nat.reduceMul, Nat.reduceLT, Nat.reduceLeDiff, Nat.reduceEqDiff, true_and, and_true, true_implies, if_true, if_false, ite_true, reduceIte, ne_eq, not_false_eq_true, reduceCtorEq, forall_const, bne_self_eq_false, Bool.true_eq_false, Bool.false_eq_true, false_implies, and_self, implies_true, Int.toNat_zero, beq_self_eq_true, decide_true, decide_false, Bool.not_true, Bool.not_false, ↓y_call, List.length_map, f1, f0, decide_true, Int.toNat_natCast, e0, hC1, hC0, hC4, hn, g2, g2', hg, w1]
      refine ⟨(i + 1, 44 + i, p[i].toNat * 3), ⟨by simp only; omega, ⟨C', ti', hg, q2, ?_, q4⟩, .inr ⟨i, hlt, rfl, rfl, rfl⟩⟩, by simp only; omega, ?_⟩
      · rw [q3, show n + 44 + i + 1 = n + (44 + (i + 1)) by omega]
      · refine le_tops rfl rfl ?_
        simp only [List.replicate, List.cons_append, List.nil_append, topL_top, topL_same, topL_nil, List.length_map]
    · have f1 : ¬ (i : Int) < (p.length : Int) := by omega
      have hil : i = p.length := by omega
      subst hil
      rw [List.drop_length] at hC3 hbi
      have hC0 : C ≠ [] := by intro e; rw [e] at hC2; simp at hC2
      -- the blocks with the other tree
      obtain ⟨L2, hL2, k10, k6, kd, ks⟩ : ∃ L2 : List Blk, LC.set tb ⟨1, .cells (C.take off ++ [.int .i64 r1, .int .i64 t1, .lst (k1.map treeD)] ++ C.drop (off + 3))⟩ = L2 ∧ L2.getD 10 blk0 = ⟨1, .cells (spD p (n + 44) t s).cells⟩ ∧
          L2.getD 6 blk0 = ⟨1, .cells [.int .i64 0, .int .i64 0, .nils]⟩ ∧ L2.drop 44 = spB p (n + 44) t s ∧ 44 ≤ L2.length := by
        have esc : (treeD s).cells = [.int .i64 r1, .int .i64 t1, .lst (k1.map treeD)] := by rw [esD]; rfl
        have hll : 44 ≤ LC.length := by rw [hLC]; simp
        rw [← esc]
        refine ⟨_, rfl, ?_⟩
        rcases hor with ⟨hp0, rfl, rfl⟩ | ⟨i, hi2, hi1, rfl, rfl⟩
        · have hpn : p = [] := List.eq_nil_of_length_eq_zero hp0
          subst hpn
          have hCe : C = (treeD x).cells := by
            have := h10.symm.trans hC1
            injection this with _ this; injection this with this
            exact this.symm
          have hcl : C.length = 3 := by rw [hCe]; exact treeD_cells x
          refine ⟨?_, ?_, ?_, by simpa using hll⟩
          · rw [List.getD, List.getElem?_set_self (by omega)]
            simp only [Option.getD_some, List.take_zero, List.nil_append, Nat.zero_add, spD]
            rw [List.drop_eq_nil_of_le (by omega), List.append_nil]
          · rw [List.getD, List.getElem?_set_ne (by omega)]; exact h6
          · rw [List.drop_set, if_pos (by omega), hdrop]; rfl
        · have hCi : (spB p (n + 44) t x)[i]? = some ⟨1, .cells C⟩ := by
            rw [← hdrop, List.getElem?_drop]
            have hlt2 : 44 + i < LC.length := by
              have : (LC.drop 44).length = p.length := by rw [hdrop, hlB]
              rw [List.length_drop] at this
              omega
            rw [List.getD, List.getElem?_eq_getElem hlt2] at hC1
            rw [List.getElem?_eq_getElem hlt2]
            exact congrArg some hC1
          have hput := spB_put p (n + 44) t x s i hi2 C hi1.symm hb hCi
          have hps : spD p (n + 44) t x = spD p (n + 44) t s := by
            cases p with
            | nil => simp at hi2
            | cons j q => cases t; rfl
          refine ⟨?_, ?_, ?_, by simpa using hll⟩
          · rw [List.getD, List.getElem?_set_ne (by omega), ← hps]; exact h10
          · rw [List.getD, List.getElem?_set_ne (by omega)]; exact h6
          · rw [List.drop_set, if_neg (by omega), hdrop, Nat.add_sub_cancel_left, hput]
      simp -implicitDefEqProofs only [↓symPre, symPost, y_condP, y_condG, run, lver, minD, intsD, eqAll, tupD, splice, Nat.zero_add, Nat.add_zero, Nat.zero_mul, Nat.mul_one, Nat.one_mul, Nat.reduceAdd, Nat.reduceSub, Nat.reduceMul, Nat.reduceLT, Nat.reduceLeDiff, Nat.reduceEqDiff, true_and, and_true, true_implies, if_true, if_false, ite_true, reduceIte, ne_eq, not_false_eq_true, reduceCtorEq, forall_const, bne_self_eq_false, Bool.true_eq_false, Bool.false_eq_true, false_implies, and_self, implies_true, Int.toNat_zero, beq_self_eq_true, decide_true, decide_false, Bool.not_true, Bool.not_false, ↓y_call, f1, decide_false, h5]
      refine pS.call rfl ?_
      have hc3s := spD_cells p (n + 44) t s
      have hones := spD_one p (n + 44) t s
      have hts := take_all (spD p (n + 44) t s).cells hc3s.symm
      have hset6 : ∀ B, (L2.set 6 B).getD 6 blk0 = B := fun B => by rw [List.getD, List.getElem?_set_self (by omega)]; rfl
      simp -implicitDefEqProofs only [↓symPre, symPost, y_condP, y_condG, run, lver, minD, intsD, eqAll, tupD, splice, Nat.zero_add, Nat.add_zero, Nat.zero_mul, Nat.mul_one, Nat.one_mul, Nat.reduceAdd, Nat.reduceSub, Nat.reduceMul, Nat.reduceLT, Nat.reduceLeDiff, Nat.reduceEqDiff, true_and, and_true, true_implies, if_true, if_false, ite_true, reduceIte, ne_eq, not_false_eq_true, reduceCtorEq, forall_const, bne_self_eq_false, Bool.true_eq_false, Bool.false_eq_true, false_implies, and_self, implies_true, Int.toNat_zero, beq_self_eq_true, decide_true, decide_false, Bool.not_true, Bool.not_false, ↓y_call, hC1, hC0, hC2, hL2, k10, k6, hts, hc3s, hset6, List.drop_succ_cons, List.drop_zero, List.append_nil, Nat.le_refl]
      refine ⟨hones, fin_wk hl (wk_tup2 ?_ wk_i) ⟨rfl, rfl, rfl⟩⟩
      rw [← spD_agg]
      refine wk_frz_spD rfl p 44 t x s hb fun i b hbk => ?_
      show (L2.set 6 _)[44 + i]? = _
      rw [List.getElem?_set_ne (by omega), ← List.getElem?_drop, kd]
      exact hbk

end Abs
end Go.Proofs.Ytfojedaccfenfaa
