/- Calls whose result lies in several blocks: the caller keeps room for them behind its own. -/
import Derived.Test.YtfojedaccfenfaaA26
namespace Go.Proofs.Ytfojedaccfenfaa
namespace Abs
set_option linter.unusedVariables false

variable {P : Program} {n : Nat} {sl : List D} {h : Heap} {lc : List Blk}

theorem mrg_pad (n : Nat) (h : Heap) (lc : List Blk) (m : Nat) : mrg n h (lc ++ List.replicate m blk0) = mrg n h lc := by
  funext b
  unfold mrg
  split
  · rfl
  · simp only [List.getD, List.getElem?_append, List.getElem?_replicate]
    split
    · rfl
    · rename_i hb
      rw [List.getElem?_eq_none (by omega)]
      split <;> rfl
theorem mrg_mrg (n : Nat) (h : Heap) (a b : List Blk) : mrg (n + a.length) (mrg n h a) b = mrg n h (a ++ b) := by
  funext c
  unfold mrg
  by_cases h1 : c < n
  · simp [h1, Nat.lt_of_lt_of_le h1 (Nat.le_add_right _ _)]
  · by_cases h2 : c < n + a.length
    · have : c - n < a.length := by omega
      simp [h1, h2, List.getD, List.getElem?_append_left this]
    · have : a.length ≤ c - n := by omega
      simp [h1, h2, List.getD, List.getElem?_append_right this, Nat.sub_sub]

/-- a function's text, from a state with room for m blocks more -/
theorem Has.callsM {f : FuncId} {k : Nat} {rs : List AR} {ac : AC} (hf : Has P f k rs ac) (m : Nat) {ds : List D} {n : Nat} {h : Heap} {R : D → Heap → List Blk → Prop}
    (hbody : LowH n h → awpS P ac (FnQ rs R) (St.mk n (ds ++ List.replicate (k - ds.length) .top) h (List.replicate k blk0 ++ List.replicate m blk0))) : ACalls P f ds n h R := by
  obtain ⟨fn, c, h1, h2, h3, h4, h5, h6⟩ := hf
  refine acalls_of_awp h1 h2 h6 fun hl => ?_
  rw [h4, h5]
  have hb := hbody hl
  rw [awpS_eq, ← h3] at hb
  refine awp_le (s' := St.mk n (ds ++ List.replicate (k - ds.length) .top) h (List.replicate k blk0 ++ List.replicate m blk0)) ⟨rfl, fun a w M hs => ⟨M, ⟨hs.defers, hs.size, hs.sl, ?_⟩, .refl ..⟩⟩ (awp_sound c _ _ hb)
  show Sim w M (mrg n h (List.replicate k blk0 ++ List.replicate m blk0))
  rw [mrg_pad]
  exact hs.sim

def chgAt (b : Nat) : List Blk → Chg
  | [] => []
  | x :: l => (b, x) :: chgAt (b + 1) l

theorem chgAt_mem : ∀ (B : List Blk) (b : Nat) (p : Nat × Blk), p ∈ chgAt b B → b ≤ p.1 ∧ p.1 < b + B.length
  | [], _, _, h => by simp [chgAt] at h
  | x :: l, b, p, h => by
    rw [chgAt] at h
    rcases List.mem_cons.1 h with rfl | h
    · simp
    · have := chgAt_mem l (b + 1) p h
      simp; omega

theorem set_mid (a b : List Blk) (x y : Blk) : (a ++ x :: b).set a.length y = a ++ y :: b := by simp

theorem app_chgAt (n : Nat) (h : Heap) : ∀ (B a : List Blk), app (mrg n h (a ++ List.replicate B.length blk0)) (chgAt (n + a.length) B) = mrg n h (a ++ B)
  | [], a => rfl
  | x :: l, a => by
    rw [chgAt]
    show app (upd _ _ x) _ = _
    rw [mrg_upd_loc x (by simp), List.length_cons, List.replicate_succ, set_mid]
    have := app_chgAt n h l (a ++ [x])
    simp only [List.append_assoc, List.cons_append, List.nil_append, List.length_append, List.length_cons, List.length_nil, Nat.zero_add] at this
    exact this
theorem stapp_chgAt (n : Nat) (sl : List D) (h : Heap) : ∀ (B a : List Blk), St.app (St.mk n sl h (a ++ List.replicate B.length blk0)) (chgAt (n + a.length) B) = St.mk n sl h (a ++ B)
  | [], a => rfl
  | x :: l, a => by
    rw [chgAt]
    show St.app (St.app1 _ _) _ = _
    have h1 : St.app1 (St.mk n sl h (a ++ List.replicate (x :: l).length blk0)) (n + a.length, x) = St.mk n sl h (a ++ [x] ++ List.replicate l.length blk0) := by
      unfold St.app1
      rw [if_neg (by simp)]
      simp only [Nat.add_sub_cancel_left, List.length_cons, List.replicate_succ, set_mid, List.append_assoc, List.cons_append, List.nil_append]
    rw [h1]
    have := stapp_chgAt n sl h l (a ++ [x])
    simp only [List.append_assoc, List.cons_append, List.nil_append, List.length_append, List.length_cons, List.length_nil, Nat.zero_add] at this ⊢
    exact this

theorem fin_chgAt {a B lc : List Blk} {L : Nat} (hlc : lc = a ++ List.replicate B.length blk0) (hL : a.length = L) (dst : Option Nat) (d : D) : St.fin (St.mk n sl h lc) dst d (chgAt (n + L) B) = St.mk n (setD sl dst d) h (a ++ B) := by
  subst hlc; subst hL
  unfold St.fin
  rw [stapp_chgAt]

theorem fin_chgAt' {B lc : List Blk} {L : Nat} (hlc : lc.drop L = List.replicate B.length blk0) (hL : L ≤ lc.length) (dst : Option Nat) (d : D) : St.fin (St.mk n sl h lc) dst d (chgAt (n + L) B) = St.mk n (setD sl dst d) h (lc.take L ++ B) :=
  fin_chgAt (by rw [← hlc, List.take_append_drop]) (by simp; omega) dst d

/-- the blocks from L on, m of them, hidden -/
def veilB : Blk := ⟨0, .veil⟩
def veilAt : Nat → Nat → List Blk → List Blk
  | 0, m, l => (l.take m).map (fun _ => veilB) ++ l.drop m
  | L + 1, m, x :: l => x :: veilAt L m l
  | _ + 1, _, [] => []
theorem veil_set : ∀ (L m : Nat) (l : List Blk), (veilAt L m l).set (L + m) veilB = veilAt L (m + 1) l
  | 0, m, l => by
    simp only [veilAt, Nat.zero_add]
    by_cases h : m < l.length
    · have h1 : l.drop m = l[m] :: l.drop (m + 1) := List.drop_eq_getElem_cons h
      have h2 : l.take (m + 1) = l.take m ++ [l[m]] := List.take_succ_eq_append_getElem h
      have h3 : ((l.take m).map fun _ => veilB).length = m := by simp; omega
      rw [h2, List.map_append, List.append_assoc]
      conv => lhs; arg 2; rw [← h3]
      rw [List.set_append_right _ _ (by omega), Nat.sub_self, h1]
      rfl
    · rw [List.take_of_length_le (by omega), List.take_of_length_le (by omega), List.drop_eq_nil_of_le (by omega), List.drop_eq_nil_of_le (by omega), List.append_nil, List.set_eq_of_length_le (by simp; omega)]
  | L + 1, m, x :: l => by
    rw [veilAt, veilAt, show L + 1 + m = L + m + 1 by omega, List.set_cons_succ, veil_set L m l]
  | L + 1, m, [] => by simp [veilAt]
theorem hide_veilAt (n : Nat) (sl : List D) (h : Heap) (lc : List Blk) (L : Nat) : ∀ m, St.hide (St.mk n sl h lc) ((List.range m).map fun i => n + L + i) = St.mk n sl h (veilAt L m lc)
  | 0 => by
    have : ∀ (L : Nat) (l : List Blk), veilAt L 0 l = l := by
      intro L
      induction L with
      | zero => intro l; simp [veilAt]
      | succ L ih => intro l; cases l with | nil => rfl | cons x l => rw [veilAt, ih]
    rw [this]; rfl
  | m + 1 => by
    have ih := hide_veilAt n sl h lc L m
    rw [← veil_set, List.range_succ, List.map_append]
    unfold St.hide St.app at ih ⊢
    rw [List.map_append, List.foldl_append, ih]
    show St.app1 _ (n + L + m, veilB) = _
    unfold St.app1
    rw [if_neg (by simp only; omega)]
    simp only [show n + L + m - n = L + m by omega]
theorem cov_chgAt {n : Nat} {dc : List (List Nat)} {k : Nat} {x : DOper} {B : List Blk} {L : Nat} (hd : isEff x.o.op = true) (hk : dc.getD k [] = (List.range B.length).map fun i => n + L + i) (hh : ∀ p, n + L ≤ p → p ∉ hidOf n dc x) : covB n dc k x (chgAt (n + L) B) := by
  intro p hp
  have hm := chgAt_mem B (n + L) p hp
  refine ⟨?_, hh _ hm.1⟩
  unfold covOf
  rw [hd, hk]
  refine List.mem_append_right _ ?_
  exact List.mem_map.2 ⟨p.1 - (n + L), List.mem_range.2 (by omega), by omega⟩

/-- the result lies in blocks of its own -/
def Spn (P : Program) (f : FuncId) (ds : List D) (r : Nat → D) (B : Nat → List Blk) : Prop := ∀ (n : Nat) (h : Heap), ACalls P f ds n h fun d h' x => h' = h ∧ x = B n ∧ d = r n

theorem Spn.call {f : FuncId} {ds : List D} {r : Nat → D} {B : Nat → List Blk} (hs : Spn P f ds r B) {a : List Blk} {L : Nat} (hlc : lc = a ++ List.replicate (B (n + L)).length blk0) (hL : a.length = L)
    {N : Nat} {H : Heap} (hN : N = n + lc.length) (hH : H = mrg n h lc) {dst : Option Nat} {K : D → Chg → Prop} (hK : K (r (n + L)) (chgAt (n + L) (B (n + L)))) : ACalls P f ds N H (callK (St.mk n sl h lc) dst K) := by
  subst hN; subst hH; subst hL
  obtain ⟨hg, hc⟩ := hs (n + a.length) (mrg n h a)
  refine ⟨hg, fun w M vs hsim hreps => ?_⟩
  have hm : mrg (n + lc.length) (mrg n h lc) [] = mrg (n + a.length) (mrg n h a) [] := by
    rw [mrg_nil, mrg_nil, hlc, mrg_pad]
  rw [hm] at hsim
  refine (hc w M vs hsim hreps).mono fun e w' ⟨v, d, h', x, M', he, ⟨hh, hx, hd⟩, hv1, hsim', hrep, hgr⟩ => ?_
  subst hh; subst hx; subst hd
  refine ⟨v, _, app (mrg n h lc) (chgAt (n + a.length) (B (n + a.length))), [], M', he, .inl ⟨_, fun p hp => ?_, rfl, rfl, hK⟩, by simp, ?_, hrep, ?_⟩
  · have := chgAt_mem _ _ p hp
    show p.1 < n + lc.length
    rw [hlc]
    simp
    omega
  · have e2 : n + lc.length = n + (a ++ B (n + a.length)).length := by rw [hlc]; simp
    rw [hlc, app_chgAt, ← hlc, e2, mrg_nil, ← mrg_mrg]
    exact hsim'
  · have h0 : ∀ b, n + a.length ≤ b → (M b).ver = 0 ∧ (M b).opq = false := fun b hb => by
      have e : mrg (n + a.length) (mrg n h a) [] b = blk0 := by unfold mrg; rw [if_neg (by omega)]; simp
      exact ⟨by rw [hsim.ver, e]; rfl, by rw [hsim.opq, e]; rfl⟩
    refine ⟨hgr.size, fun b hb => ?_, fun b hb hv => ?_, hgr.occ, hgr.live, hgr.imm, hgr.shape, fun b hb ho => ?_, hgr.same⟩
    · by_cases hb' : b < n + a.length
      · exact hgr.ver b hb'
      · rw [(h0 b (by omega)).1]; omega
    · by_cases hb' : b < n + a.length
      · exact hgr.loc b hb' hv
      · left
        rw [(h0 b (by omega)).1, hsim'.ver] at hv
        have hcon := hsim'.con b
        have e : mrg (n + a.length) (mrg n h a) (B (n + a.length)) b = (B (n + a.length)).getD (b - (n + a.length)) blk0 := by unfold mrg; rw [if_neg hb']
        rw [e] at hv hcon
        cases hx : (B (n + a.length))[b - (n + a.length)]? with
        | none =>
          rw [List.getD, hx] at hcon
          exact hcon
        | some k =>
          rw [List.getD, hx] at hv
          have := hv1 k (List.mem_of_getElem? hx)
          simp at hv
          omega
    · by_cases hb' : b < n + a.length
      · exact hgr.opq b hb' ho
      · rw [(h0 b (by omega)).2] at ho; cases ho

theorem Spn.call' {f : FuncId} {ds : List D} {r : Nat → D} {B : Nat → List Blk} (hs : Spn P f ds r B) (L : Nat) (hlc : lc.drop L = List.replicate (B (n + L)).length blk0) (hL : L ≤ lc.length)
    {N : Nat} {H : Heap} (hN : N = n + lc.length) (hH : H = mrg n h lc) {dst : Option Nat} {K : D → Chg → Prop} (hK : K (r (n + L)) (chgAt (n + L) (B (n + L)))) : ACalls P f ds N H (callK (St.mk n sl h lc) dst K) :=
  hs.call (a := lc.take L) (L := L) (by rw [← hlc, List.take_append_drop]) (by simp; omega) hN hH hK

/-- the same in a region whose order is left open -/
theorem Spn.draw {f : FuncId} {ds : List D} {r : Nat → D} {B : Nat → List Blk} (hs : Spn P f ds r B) {V : St} {L : Nat} (hlc : V.lc.drop L = List.replicate (B (V.n + L)).length blk0) (hL : L ≤ V.lc.length)
    {args : List Opd} {dst : Option Nat} {g : AGuard} (ha : args.map V.val = ds) : stepV P ⟨dst, .call f args, g⟩ V fun d' δ' => d' = r (V.n + L) ∧ δ' = chgAt (V.n + L) (B (V.n + L)) := by
  intro s hsub
  rw [ha]
  have hn := hsub.n
  have hlen := hsub.len
  have key : s.lc.drop L = List.replicate (B (s.n + L)).length blk0 := by
    rw [← hn]
    refine List.ext_getElem? fun i => ?_
    rw [← hlc, List.getElem?_drop, List.getElem?_drop]
    by_cases hi : L + i < V.lc.length
    · have hv : V.lc[L + i]? = some blk0 := by
        have : (V.lc.drop L)[i]? = (List.replicate (B (V.n + L)).length blk0)[i]? := by rw [hlc]
        rw [List.getElem?_drop, List.getElem?_replicate] at this
        rw [this, if_pos]
        have hl2 : (V.lc.drop L).length = (B (V.n + L)).length := by rw [hlc]; simp
        rw [List.length_drop] at hl2
        omega
      have e1 : V.blk (V.n + (L + i)) = blk0 := by
        show mrg V.n V.h V.lc _ = _
        rw [mrg_loc, List.getD, hv]; rfl
      have e2 : s.blk (V.n + (L + i)) = s.lc.getD (L + i) blk0 := by rw [hn]; exact mrg_loc ..
      rcases hsub.blk (V.n + (L + i)) with h | h
      · rw [e1] at h; cases h
      · rw [e1, e2] at h
        have hi' : L + i < s.lc.length := by omega
        rw [List.getD, List.getElem?_eq_getElem hi'] at h
        rw [hv, List.getElem?_eq_getElem hi']
        simp at h
        rw [← h]
    · rw [List.getElem?_eq_none (by omega), List.getElem?_eq_none (by omega)]
  rw [hn] at *
  cases s with
  | mk n sl h lc =>
    simp only at key hlen hn ⊢
    refine hs.call (a := lc.take L) (L := L) (by rw [← key, List.take_append_drop]) (by simp; omega) ?_ rfl ?_
    · rw [hlen]
    · exact And.intro rfl rfl

/-- the same slots, some of them forgotten -/
def TopL : List D → List D → Prop
  | [], [] => True
  | d :: l, d' :: l' => (d' = .top ∨ d = d') ∧ TopL l l'
  | _, _ => False
theorem TopL.spec : ∀ {l l' : List D}, TopL l l' → l.length = l'.length ∧ ∀ (i : Nat) (d' : D), l'[i]? = some d' → d' = .top ∨ l[i]? = some d'
  | [], [], _ => ⟨rfl, fun i d h => by simp at h⟩
  | [], _ :: _, h => h.elim
  | _ :: _, [], h => h.elim
  | d :: l, d' :: l', ⟨h1, h2⟩ => by
    obtain ⟨q1, q2⟩ := TopL.spec h2
    refine ⟨by simp [q1], fun i x hx => ?_⟩
    cases i with
    | zero => simp at hx; subst hx; rcases h1 with h1 | h1; exact .inl h1; right; simp [h1]
    | succ i => exact q2 i x (by simpa using hx)
theorem TopL.refl : ∀ l : List D, TopL l l
  | [] => trivial
  | d :: l => ⟨.inr rfl, TopL.refl l⟩
theorem topL_nil : TopL [] [] = True := rfl
theorem topL_top {d : D} {l l' : List D} : TopL (d :: l) (.top :: l') = TopL l l' := by simp [TopL]
theorem topL_same {d : D} {l l' : List D} : TopL (d :: l) (d :: l') = TopL l l' := by simp [TopL]
theorem le_tops {sl' : List D} {h' : Heap} {lc' : List Blk} (h1 : h' = h) (h2 : lc' = lc) (ht : TopL sl sl') : Le (St.mk n sl h lc) (St.mk n sl' h' lc') := by
  subst h1; subst h2
  obtain ⟨hl, hg⟩ := ht.spec
  refine ⟨rfl, fun a w M hs => ⟨M, ⟨hs.defers, hs.size.trans hl, fun t d v hd hv => ?_, hs.sim⟩, .refl ..⟩⟩
  rcases hg t d hd with rfl | hd'
  · exact .top _
  · exact hs.sl t d v hd' hv

end Abs
end Go.Proofs.Ytfojedaccfenfaa
