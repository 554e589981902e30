/- What the operations' abstract run says holds of the model's run: operation by operation. -/
import Derived.Test.YtfojedaccfenfabA4
namespace Go.Proofs.Ytfojedaccfenfab
namespace Abs

def Outs (P : Program) (o : Oper) (a : Act) (w : World) (v : Value) (w' : World) : Prop :=
  (execOp a.eval o).run P w = .ok (.value v) w' ∨ ((execOp a.eval o).run P w = .ok .skip w' ∧ v = undef)

def Good (P : Program) (s : St) (o : Oper) (a : Act) (w : World) (M : Ctx) (K : D → Chg → Prop) : Prop :=
  ∃ v w' d δ M', K d δ ∧ s.inr δ ∧ Outs P o a w v w' ∧ Step w M w' M' ∧ Sim w' M' (app s.hp δ) ∧ Rep w' M' d v

theorem Addr.add_add (a : Addr) (n m : Nat) : (a.add n).add m = a.add (n + m) := by
  unfold Addr.add
  by_cases hn : n = 0 <;> by_cases hm : m = 0 <;> simp [hn, hm]
  omega
theorem Addr.lit_add (c base n : Nat) : (⟨c, base, none⟩ : Addr).add n = ⟨c, base + n, none⟩ := by
  unfold Addr.add
  by_cases hn : n = 0 <;> simp [hn]

variable {P : Program} {s : St} {o : Oper} {a : Act} {w : World} {M : Ctx} {K : D → Chg → Prop}

theorem good_same (hs : SimA s a w M) {v : Value} {d : D} (hrun : (execOp a.eval o).run P w = .ok (.value v) w) (hr : Rep w M d v) (hK : K d []) : Good P s o a w M K :=
  ⟨v, w, d, [], M, hK, by simp [St.inr], .inl hrun, (step_same hs.sim rfl).1, hs.sim, hr⟩

theorem at_spec {b ver : Nat} {Q : List D → Prop} (h : s.at b ver Q) : ∃ cs, s.hp b = ⟨ver, .cells cs⟩ ∧ Q cs := by
  unfold St.at at h
  split at h
  · rename_i v cs hb; exact ⟨cs, by rw [← h.1]; exact hb, h.2⟩
  · exact h.elim

theorem at_mem {b ver : Nat} {cs : List D} (hs : SimA s a w M) (hb : s.hp b = ⟨ver, .cells cs⟩) (hne : cs ≠ []) :
    (M b).ver = ver ∧ ∃ c base C e, (M b).loc = some (.mem c base) ∧ w.heap[c]? = some (.cells C e (0, 0)) ∧ base + cs.length ≤ C.size ∧
      ∀ (j : Nat) (d : D), cs[j]? = some d → ∃ v, C[base + j]? = some v ∧ Rep w M d v := by
  have h1 := hs.sim.ver b
  have h2 := hs.sim.con b
  rw [hb] at h1 h2
  refine ⟨h1, ?_⟩
  rcases h2 with ⟨_, _, h⟩ | h
  · exact absurd h hne
  · exact h

theorem cell_of {c base j : Nat} {C : Array Value} {e : TypeId} {fr : Nat × Nat} {v : Value} (hc : w.heap[c]? = some (.cells C e fr)) (hv : C[base + j]? = some v) :
    w.cell? ((⟨c, base, none⟩ : Addr).add j) = some v := by
  rw [Addr.lit_add]
  simp [World.cell?, hc, hv]

theorem load_rep {t : TypeId} {i : TypeInfo} {td : TypeDesc} (hi : P.info? t = some i) (hd : P.underlying t = some td) {cs : List D} {ad : Addr} {off : Nat} {Q : D → Prop}
    (hcell : ∀ (j : Nat) (e : D), cs[j]? = some e → ∃ v, w.cell? (ad.add j) = some v ∧ Rep w M e v) (h : ld (isAggD td) i.size cs off Q) :
    ∃ v d, (loadVar t (ad.add off)).run P w = .ok v w ∧ Rep w M d v ∧ Q d := by
  unfold ld at h
  split at h
  · rename_i ha
    have hex : ∀ j, ∃ v, j < i.size → w.cell? ((ad.add off).add j) = some v ∧ Rep w M (nth cs (off + j)) v := fun j => by
      by_cases hj : j < i.size
      · obtain ⟨v, h1, h2⟩ := hcell (off + j) _ (nth_get (by omega))
        exact ⟨v, fun _ => ⟨by rw [Addr.add_add]; exact h1, h2⟩⟩
      · exact ⟨undef, fun h => absurd h hj⟩
    let f : Nat → Value := fun j => Classical.choose (hex j)
    have hf : ∀ j, j < i.size → w.cell? ((ad.add off).add j) = some (f j) ∧ Rep w M (nth cs (off + j)) (f j) := fun j hj => Classical.choose_spec (hex j) hj
    refine ⟨_, _, run_loadVar_agg w hi hd ha (ad.add off) f (fun j hj => (hf j hj).1), .agg _ _ (by simp; omega) fun j c v hc hv => ?_, h.2⟩
    by_cases hj : j < i.size
    · have hv' : v = f j := by simpa [hj] using hv.symm
      have hc' : c = nth cs (off + j) := by
        rw [List.getElem?_take, if_pos hj, List.getElem?_drop, nth_get (by omega)] at hc
        exact (Option.some.inj hc).symm
      rw [hv', hc']; exact (hf j hj).2
    · rw [List.getElem?_take, if_neg hj] at hc; cases hc
  · rename_i ha
    obtain ⟨v, h1, h2⟩ := hcell off _ (nth_get h.1)
    exact ⟨v, _, run_loadVar_one w hd (by simpa using ha) _ _ h1, h2, h.2⟩

theorem sound_load {t : TypeId} {x : Operand} {i : TypeInfo} {td : TypeDesc} (hs : SimA s a w M) (ho : o.op = .load t x) (hi : P.info? t = some i) (hd : P.underlying t = some td) (h0 : i.size ≠ 0)
    (h : run s o.dst K (.load (isAggD td) i.size (opd x))) : Good P s o a w M K := by
  have hx := val_rep hs x
  simp only [run] at h
  split at h
  · rename_i cs hv
    rw [hv] at hx
    generalize hve : a.eval x = v at hx
    cases hx with
    | adr cs ad u hsp hb hlive hcell hr =>
      obtain ⟨v, d, hrun, hrep, hK⟩ := load_rep (w := w) (M := M) hi hd (ad := ad) (fun j e he => ⟨u j, hcell j e he, hr j e he⟩) h
      have hz : ad.add 0 = ad := by simp [Addr.add]
      rw [hz] at hrun
      exact good_same hs (by simp [execOp, ho, Instr.loadAt, Instr.sureAddr, hve, hrun]) hrep hK
  · rename_i b ver off hv
    rw [hv] at hx
    obtain ⟨cs, hb, hQ⟩ := at_spec h
    have hne : cs ≠ [] := by
      rintro rfl
      unfold ld at hQ
      split at hQ
      · simp at hQ; omega
      · simp at hQ
    obtain ⟨hver, c, base, C, e, hl, hc, hsz, hrep⟩ := at_mem hs hb hne
    generalize hve : a.eval x = v at hx
    cases hx with
    | ptr _ _ _ _ hle hp _ =>
      have hp' := hp hver
      rw [hl] at hp'
      simp only [PtrOk] at hp'
      subst hp'
      obtain ⟨v, d, hrun, hrep', hK⟩ := load_rep (w := w) (M := M) hi hd (ad := ⟨c, base, none⟩) (fun j e he => by
        obtain ⟨v, h1, h2⟩ := hrep j e he
        exact ⟨v, cell_of hc h1, h2⟩) hQ
      rw [Addr.lit_add] at hrun
      exact good_same hs (by simp [execOp, ho, Instr.loadAt, Instr.sureAddr, hve, hrun]) hrep' hK
  · exact h.elim

theorem new_spec {con : Con} {Q : Nat → Nat → Chg → Prop} (h : s.new o.dst con Q) :
    ∃ t, o.dst = some t ∧ t < s.lc.length ∧ (s.hp (s.n + t)).con.isOpq = false ∧ Q (s.n + t) ((s.hp (s.n + t)).ver + 1) [(s.n + t, ⟨(s.hp (s.n + t)).ver + 1, con⟩)] := by
  unfold St.new at h
  split at h
  · exact h.elim
  · rename_i t ht
    exact ⟨t, ht, h.1, by rw [St.hp, mrg_loc]; exact h.2.1, by rw [St.hp, mrg_loc]; exact h.2.2⟩

theorem inr_new {t : Nat} {x : Blk} (ht : t < s.lc.length) : s.inr [(s.n + t, x)] := by
  intro p hp
  simp at hp
  subst hp
  show s.n + t < _
  omega

theorem inr_old {b : Nat} {x : Blk} (hb : (s.hp b).con ≠ .none) : s.inr [(b, x)] := by
  intro p hp
  simp at hp
  subst hp
  refine Nat.lt_of_not_le fun hle => hb ?_
  have e1 : ¬ b < s.n := by simp only at hle; omega
  have e2 : s.lc[b - s.n]? = none := by rw [List.getElem?_eq_none_iff]; simp only at hle; omega
  simp [St.hp, mrg, e1, e2, blk0]

/-- the parts of a new block, out of a value's cells -/
theorem good_newvar (hs : SimA s a w M) {e : TypeId} {C : Array Value} {cs : List D} {Q : D → Chg → Prop} (hrun : (execOp a.eval o).run P w = .ok (.value (.pointer (some ⟨w.heap.size, 0, none⟩))) (w.alloc (.cells C e)))
    (hl : cs.length ≤ C.size) (hr : ∀ (j : Nat) (d : D), cs[j]? = some d → ∃ v, C[j]? = some v ∧ Rep w M d v)
    (h : s.new o.dst (.cells cs) fun id ver δ => Q (.ptr id ver 0) δ) : Good P s o a w M Q := by
  obtain ⟨t, ht, hlt, hnv, hQ⟩ := new_spec h
  obtain ⟨hst, hsim⟩ := sim_new (w' := w.alloc (.cells C e)) hs.sim (s.n + t) hnv C e rfl cs hl hr
  exact ⟨_, _, _, _, _, hQ, inr_new hlt, .inl hrun, hst, hsim, .ptr _ _ _ _ (by simp [updM]) (by simp [updM, PtrOk]) ⟨_, rfl⟩⟩

theorem sound_alloc {e : TypeId} {i : TypeInfo} {z : Value} (hs : SimA s a w M) (ho : o.op = .alloc e) (hi : P.info? e = some i) (hz : i.zero = some z)
    (h : run s o.dst K (.alloc (litD z).cells)) : Good P s o a w M K := by
  simp only [run] at h
  have hrep := litD_rep w M z
  by_cases hsol : (litD z).solid = true
  · obtain ⟨h1, h2⟩ := rep_solid hrep hsol
    exact good_newvar hs (C := z.cells) (e := e) (by simp [execOp, ho, Instr.alloc, run_zero w hi hz, newVar, newRow]) (by omega) (fun j d hd => by
      have hj : j < z.cells.size := by rw [h1]; exact (List.getElem?_eq_some_iff.1 hd).1
      exact ⟨z.cells[j], by simp [hj], h2 j d _ hd (by simp [hj])⟩) h
  · -- nothing is known of the cell
    have htop : (litD z).cells = [.top] ∧ 0 < z.cells.size := by
      unfold litD litC at hsol ⊢
      split
      · rename_i cs; simp [D.solid] at hsol
      · split <;> simp_all [D.solid, D.cells, Value.cells]
    rw [htop.1] at h
    exact good_newvar hs (C := z.cells) (e := e) (cs := [.top]) (by simp [execOp, ho, Instr.alloc, run_zero w hi hz, newVar, newRow]) (Nat.succ_le_of_lt htop.2) (fun j d hd => by
      cases j with
      | zero => simp at hd; subst hd; exact ⟨z.cells[0]'htop.2, by simp [htop.2], .top _⟩
      | succ j => simp at hd) h

theorem sound_box {e : TypeId} {x : Operand} (hs : SimA s a w M) (ho : o.op = .box e x) (h : run s o.dst K (.box (opd x))) : Good P s o a w M K := by
  simp only [run] at h
  obtain ⟨h1, h2⟩ := rep_solid (val_rep hs x) h.1
  exact good_newvar hs (C := (a.eval x).cells) (e := e) (by simp [execOp, ho, Instr.box, newVar, newRow]) (by omega) (fun j d hd => by
    have hj : j < (a.eval x).cells.size := by rw [h1]; exact (List.getElem?_eq_some_iff.1 hd).1
    exact ⟨(a.eval x).cells[j], by simp [hj], h2 j d _ hd (by simp [hj])⟩) h.2

theorem sound_mov {x : Operand} (hs : SimA s a w M) (ho : o.op = .move x ∨ o.op = .assign x) (h : run s o.dst K (.mov (opd x))) : Good P s o a w M K := by
  simp only [run] at h
  rcases ho with ho | ho <;> exact good_same hs (by simp [execOp, ho]) (val_rep hs x) h

theorem sound_pick {c x y : Operand} (hs : SimA s a w M) (ho : o.op = .pick c x y) (h : run s o.dst K (.pick (opd c) (opd x) (opd y))) : Good P s o a w M K := by
  simp only [run] at h
  have hc := val_rep hs c
  split at h
  · rename_i t hv
    rw [hv] at hc
    generalize hve : a.eval c = u at hc
    cases hc with
    | bool _ =>
      refine good_same hs (v := if t then a.eval x else a.eval y) (by simp [execOp, ho, hve, asBool]) ?_ h
      cases t
      · exact val_rep hs y
      · exact val_rep hs x
  · exact h.elim

theorem sound_extract {x : Operand} {i : Nat} (hs : SimA s a w M) (ho : o.op = .extract x i) (h : run s o.dst K (.extract (opd x) i)) : Good P s o a w M K := by
  simp only [run] at h
  have hx := val_rep hs x
  split at h
  · rename_i ds hv
    rw [hv] at hx
    generalize hve : a.eval x = u at hx
    cases hx with
    | tup _ vs hl hr =>
      have hi : i < vs.size := by rw [hl]; exact h.1
      exact good_same hs (v := vs[i]) (by simp [execOp, ho, hve, Instr.extract, hi]) (hr i _ _ (nth_get h.1) (by simp [hi])) h.2
  · exact h.elim

theorem sound_nilck {x : Operand} (hs : SimA s a w M) (ho : o.op = .nilCheck x) (h : run s o.dst K (.nilck (opd x))) : Good P s o a w M K := by
  simp only [run] at h
  have hx := val_rep hs x
  split at h
  · rename_i cs hv
    rw [hv] at hx
    generalize hve : a.eval x = u at hx
    have hx' := hx
    cases hx with
    | adr _ ad u hsp hb hlive hcell hr => exact good_same hs (by simp [execOp, ho, hve]) hx' h
  · rename_i f cs hv
    rw [hv] at hx
    generalize hve : a.eval x = u at hx
    have hx' := hx
    cases hx with
    | fn _ _ vs hl hr => exact good_same hs (by simp [execOp, ho, hve]) hx' h
  · rename_i b ver off hv
    rw [hv] at hx
    obtain ⟨cs, hb, hne, hQ⟩ := at_spec h
    obtain ⟨hver, c, base, C, e, hl, hc, hsz, hrep⟩ := at_mem hs hb hne
    generalize hve : a.eval x = u at hx
    have hx' := hx
    cases hx with
    | ptr _ _ _ _ hle hp _ =>
      have hp' := hp hver
      rw [hl] at hp'
      simp only [PtrOk] at hp'
      subst hp'
      exact good_same hs (by simp [execOp, ho, hve]) hx' hQ
  · exact h.elim

theorem sound_mkfn {f : FuncId} {first caps : Array Operand} (hs : SimA s a w M) (ho : o.op = .makeFunc (.func f) first caps) (hf : first.isEmpty = true) (h : run s o.dst K (.mkfn f (caps.toList.map opd))) : Good P s o a w M K := by
  simp only [run] at h
  have he : first = #[] := by simpa using hf
  refine good_same hs (v := .func (.func f) #[] (caps.map a.eval)) (by simp [execOp, ho, Instr.makeFunc, he]) (.fn f _ _ (by simp) fun i c v hc hv => ?_) h
  simp only [List.getElem?_map, Array.getElem?_toList, Option.map_eq_some_iff, List.map_map, Array.getElem?_map] at hc hv
  obtain ⟨x, hx, rfl⟩ := hc
  obtain ⟨y, hy, rfl⟩ := hv
  rw [hx] at hy; injection hy with hy; subst hy
  exact val_rep hs x

end Abs
end Go.Proofs.Ytfojedaccfenfab
