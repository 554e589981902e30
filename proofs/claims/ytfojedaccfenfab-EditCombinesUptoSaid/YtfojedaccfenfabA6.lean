/- What the operations' abstract run says holds of the model's run: numbers, bools, fields, indexes, stores. -/
import Derived.Test.YtfojedaccfenfabA5
namespace Go.Proofs.Ytfojedaccfenfab
namespace Abs
variable {P : Program} {s : St} {o : Oper} {a : Act} {w : World} {M : Ctx} {K : D → Chg → Prop}

theorem sound_un {op : UnOp} {t : TypeId} {x : Operand} (hs : SimA s a w M) (ho : o.op = .unOp op t x) (h : run s o.dst K (.un op (opd x))) : Good P s o a w M K := by
  simp only [run] at h
  have hx := val_rep hs x
  split at h
  · rename_i b hv
    rw [hv] at hx
    generalize hve : a.eval x = u at hx
    cases hx with
    | bool _ => exact good_same hs (v := .bool !b) (by simp [execOp, ho, hve, Op.unary]) (.bool _) h
  · rename_i hv
    rw [hv] at hx
    generalize hve : a.eval x = u at hx
    cases hx with
    | abool b => exact good_same hs (v := .bool !b) (by simp [execOp, ho, hve, Op.unary]) (.abool _) h
  · rename_i k n hv
    rw [hv] at hx
    generalize hve : a.eval x = u at hx
    cases hx with
    | int _ _ => exact good_same hs (v := .int k (k.wrap (0 - n))) (by simp [execOp, ho, hve, Op.unary, Op.intArith]) (.int _ _) h
  · exact h.elim

theorem sound_conv {t u : TypeId} {k k' : IntKind} {x : Operand} (hs : SimA s a w M) (ho : o.op = .convert t u x) (ht : P.underlying t = some (.int k')) (hu : P.underlying u = some (.int k)) (h : run s o.dst K (.conv k (opd x))) : Good P s o a w M K := by
  simp only [run] at h
  have hx := val_rep hs x
  split at h
  · rename_i k1 n hv
    rw [hv] at hx
    generalize hve : a.eval x = v at hx
    cases hx with
    | int _ _ => exact good_same hs (v := .int k (k.wrap n)) (by simp [execOp, ho, hve, convert, run_underlying ht, run_underlying hu, Conv.intToInt]) (.int _ _) h
  · exact h.elim

theorem sound_field {t : TypeId} {x : Operand} {f : Nat} {fs : Array Field} {fd : Field} {i : TypeInfo} {td : TypeDesc} (hs : SimA s a w M) (ho : o.op = .field t x f) (ht : P.underlying t = some (.struct fs)) (hf : fs[f]? = some fd)
    (hi : P.info? fd.type = some i) (hd : P.underlying fd.type = some td) (h : run s o.dst K (.field (isAggD td) fd.offset i.size (opd x))) : Good P s o a w M K := by
  simp only [run] at h
  have hx := val_rep hs x
  split at h
  · rename_i cs hv
    rw [hv] at hx
    generalize hve : a.eval x = v at hx
    cases hx with
    | agg _ vs hl hr =>
      unfold ld at h
      split at h
      · rename_i ha
        refine good_same hs (v := .agg (vs.extract fd.offset (fd.offset + i.size))) (by simp [execOp, ho, hve, Instr.field, run_underlying ht, hf, asAgg, part, run_isAgg w hd, ha, run_sizeOf w hi]) (.agg _ _ (by simp [hl]; omega) fun j c u hc hu => ?_) h.2
        by_cases hj : j < i.size
        · rw [List.getElem?_take, if_pos hj, List.getElem?_drop] at hc
          rw [Array.getElem?_extract] at hu
          split at hu
          · exact hr _ _ _ hc hu
          · cases hu
        · rw [List.getElem?_take, if_neg hj] at hc; cases hc
      · rename_i ha
        have hlt : fd.offset < vs.size := by rw [hl]; exact h.1
        exact good_same hs (v := vs[fd.offset]) (by simp [execOp, ho, hve, Instr.field, run_underlying ht, hf, asAgg, part, run_isAgg w hd, ha, hlt]) (hr _ _ _ (nth_get h.1) (by simp [hlt])) h.2
  · exact h.elim

theorem rep_ptr {b ver off c base : Nat} {u : Value} (hx : Rep w M (.ptr b ver off) u) (hver : (M b).ver = ver) (hl : (M b).loc = some (.mem c base)) : u = .pointer (some ⟨c, base + off, none⟩) := by
  cases hx with
  | ptr _ _ _ _ hle hp _ =>
    have hp' := hp hver
    rw [hl] at hp'
    exact hp'

theorem rep_ptr_mk {b ver off c base : Nat} (hver : (M b).ver = ver) (hl : (M b).loc = some (.mem c base)) : Rep w M (.ptr b ver off) (.pointer (some ⟨c, base + off, none⟩)) :=
  .ptr _ _ _ _ (Nat.le_of_eq hver.symm) (fun _ => by rw [hl]; rfl) ⟨_, rfl⟩

theorem rep_adr_drop {cs : List D} {ad : Addr} (off : Nat) (hx : Rep w M (.adr cs) (.pointer (some ad))) : Rep w M (.adr (cs.drop off)) (.pointer (some (ad.add off))) := by
  cases hx with
  | adr _ _ u hsp hb hlive hcell hr =>
    refine .adr _ _ (fun j => u (off + j)) (by unfold Addr.add; split <;> simp_all) (by rw [Addr.block_add]; exact hb) (by rw [Addr.block_add]; exact hlive) (fun j e he => ?_) fun j e he => ?_
    · rw [List.getElem?_drop] at he; rw [Addr.add_add]; exact hcell _ _ he
    · rw [List.getElem?_drop] at he; exact hr _ _ he

theorem sound_fieldAddr {t : TypeId} {x : Operand} {f : Nat} {fs : Array Field} {fd : Field} {i : TypeInfo} (hs : SimA s a w M) (ho : o.op = .fieldAddr t x f) (ht : P.underlying t = some (.struct fs)) (hf : fs[f]? = some fd)
    (hi : P.info? fd.type = some i) (hsz : i.size ≠ 0) (h : run s o.dst K (.fieldAddr fd.offset (opd x))) : Good P s o a w M K := by
  simp only [run] at h
  have hx := val_rep hs x
  have hrun : ∀ ad : Addr, (fieldPlace ad fd).run P w = .ok (ad.add fd.offset) w := fun ad => by simp [fieldPlace, run_sizeOf w hi, hsz]
  split at h
  · rename_i cs hv
    rw [hv] at hx
    generalize hve : a.eval x = v at hx
    have hx' := hx
    cases hx with
    | adr _ ad u hsp hb hlive hcell hr =>
      exact good_same hs (v := .pointer (some (ad.add fd.offset))) (by simp [execOp, ho, hve, Instr.fieldAt, run_underlying ht, hf, Instr.sureAddr, hrun]) (rep_adr_drop _ hx') h
  · rename_i b ver off hv
    rw [hv] at hx
    obtain ⟨cs, hb, hne, hQ⟩ := at_spec h
    obtain ⟨hver, c, base, C, e, hl, hc, hsz, hrep⟩ := at_mem hs hb hne
    have hve := rep_ptr hx hver hl
    have := rep_ptr_mk (w := w) (off := off + fd.offset) hver hl
    rw [← Nat.add_assoc] at this
    exact good_same hs (v := .pointer (some ⟨c, base + off + fd.offset, none⟩)) (by simp [execOp, ho, hve, Instr.fieldAt, run_underlying ht, hf, Instr.sureAddr, hrun, Addr.lit_add]) this hQ
  · exact h.elim

theorem sound_idxS {t e : TypeId} {x ix : Operand} {i : TypeInfo} (hs : SimA s a w M) (ho : o.op = .indexAddr t x ix) (ht : P.underlying t = some (.slice e)) (hi : P.info? e = some i)
    (h : run s o.dst K (.idxS i.size (opd x) (opd ix))) : Good P s o a w M K := by
  simp only [run] at h
  have hx := val_rep hs x
  have hix := val_rep hs ix
  split at h
  · rename_i l k n hv hv2
    rw [hv] at hx
    rw [hv2] at hix
    generalize hve : a.eval x = v at hx
    generalize hve2 : a.eval ix = v2 at hix
    cases hix with
    | int _ _ =>
      obtain ⟨h0, h1, h2, hK⟩ := h
      cases hx with
      | lst0 a c => simp at h1; omega
      | lst _ ad c sz u hcc hsp hb hlive hsz hcell hr =>
        have hn : n.toNat < l.length := by omega
        have hmem : nth l n.toNat ∈ l := List.mem_of_getElem? (nth_get hn)
        have hszi : sz = i.size := by rw [← hsz _ hmem, h2]
        refine good_same hs (v := .pointer (some (ad.add (n.toNat * i.size)))) (by simp [execOp, ho, hve, hve2, Instr.indexAt, asIntOf, run_underlying ht, run_sizeOf w hi, h0, h1]) ?_ hK
        refine .adr _ _ (u n.toNat) (by unfold Addr.add; split <;> simp_all) (by rw [Addr.block_add]; exact hb) (by rw [Addr.block_add]; exact hlive) (fun j d hd => ?_) fun j d hd => hr _ _ (nth_get hn) j d hd
        rw [Addr.add_add, ← hszi]
        exact hcell _ _ (nth_get hn) j d hd
  · rename_i sz' b ver off len k n hv hv2
    rw [hv] at hx
    rw [hv2] at hix
    obtain ⟨rfl, h0, h1, hat⟩ := h
    obtain ⟨cs, hb, hQ⟩ := at_spec hat
    generalize hve : a.eval x = v at hx
    generalize hve2 : a.eval ix = v2 at hix
    have hM1 := hs.sim.ver b
    have hM2 := hs.sim.con b
    rw [hb] at hM1 hM2
    cases hix with
    | int _ _ =>
      cases hx with
      | ref _ _ _ _ _ _ hle hp h1' =>
        have hp' := hp hM1
        rcases hM2 with ⟨a', hl, hcs⟩ | ⟨c, base, C, e', hl, hc, hsz, hrep⟩
        · rw [hl] at hp'
          obtain ⟨_, h3, _⟩ := hp'
          omega
        · rw [hl] at hp'
          rcases hp' with ⟨h3, _⟩ | ⟨cap, rfl, hcap, hroom⟩
          · omega
          · have hp2 := rep_ptr_mk (w := w) (M := M) (off := off + n.toNat * i.size) hM1 hl
            rw [← Nat.add_assoc] at hp2
            exact good_same hs (v := .pointer (some ⟨c, base + off + n.toNat * i.size, none⟩)) (by simp [execOp, ho, hve, hve2, Instr.indexAt, asIntOf, run_underlying ht, run_sizeOf w hi, h0, h1, Addr.lit_add]) hp2 hQ
  · exact h.elim

theorem sound_idxA {t e : TypeId} {n : Nat} {x ix : Operand} {i : TypeInfo} (hs : SimA s a w M) (ho : o.op = .indexAddr t x ix) (ht : P.underlying t = some (.array n e)) (hi : P.info? e = some i)
    (h : run s o.dst K (.idxA n i.size (opd x) (opd ix))) : Good P s o a w M K := by
  simp only [run] at h
  have hx := val_rep hs x
  have hix := val_rep hs ix
  split at h
  · rename_i b ver off k m hv hv2
    rw [hv] at hx
    rw [hv2] at hix
    obtain ⟨h0, h1, hat⟩ := h
    obtain ⟨cs, hb, hne, hQ⟩ := at_spec hat
    obtain ⟨hver, c, base, C, e', hl, hc, hsz, hrep⟩ := at_mem hs hb hne
    have hve := rep_ptr hx hver hl
    generalize hve2 : a.eval ix = v2 at hix
    cases hix with
    | int _ _ =>
      have hp2 := rep_ptr_mk (w := w) (M := M) (off := off + m.toNat * i.size) hver hl
      rw [← Nat.add_assoc] at hp2
      exact good_same hs (v := .pointer (some ⟨c, base + off + m.toNat * i.size, none⟩)) (by simp [execOp, ho, hve, hve2, Instr.indexAt, asIntOf, run_underlying ht, run_sizeOf w hi, h0, h1, Addr.lit_add, Instr.sureAddr]) hp2 hQ
  · rename_i cs k m hv hv2
    rw [hv] at hx
    rw [hv2] at hix
    obtain ⟨h0, h1, hQ⟩ := h
    generalize hve : a.eval x = v at hx
    generalize hve2 : a.eval ix = v2 at hix
    have hx' := hx
    cases hix with
    | int _ _ =>
      cases hx with
      | adr _ ad u hsp hb hlive hcell hr =>
        exact good_same hs (v := .pointer (some (ad.add (m.toNat * i.size)))) (by simp [execOp, ho, hve, hve2, Instr.indexAt, asIntOf, run_underlying ht, run_sizeOf w hi, h0, h1, Instr.sureAddr]) (rep_adr_drop _ hx') hQ
  · exact h.elim

theorem sound_idx {t e : TypeId} {n : Nat} {x ix : Operand} {i : TypeInfo} {td : TypeDesc} (hs : SimA s a w M) (ho : o.op = .index t x ix) (ht : P.underlying t = some (.array n e)) (hi : P.info? e = some i) (hd : P.underlying e = some td)
    (h : run s o.dst K (.idx (isAggD td) n i.size (opd x) (opd ix))) : Good P s o a w M K := by
  simp only [run] at h
  have hx := val_rep hs x
  have hix := val_rep hs ix
  split at h
  · rename_i cs k m hv hv2
    rw [hv] at hx
    rw [hv2] at hix
    obtain ⟨h0, h1, hQ⟩ := h
    generalize hve : a.eval x = v at hx
    generalize hve2 : a.eval ix = v2 at hix
    cases hix with
    | int _ _ =>
      cases hx with
      | agg _ vs hl hr =>
        unfold ld at hQ
        split at hQ
        · rename_i ha
          refine good_same hs (v := .agg (vs.extract (m.toNat * i.size) (m.toNat * i.size + i.size))) (by simp [execOp, ho, hve, hve2, Instr.index, asIntOf, run_underlying ht, h0, h1, part, run_isAgg w hd, ha, run_sizeOf w hi]) (.agg _ _ (by simp [hl]; omega) fun j c u hc hu => ?_) hQ.2
          by_cases hj : j < i.size
          · rw [List.getElem?_take, if_pos hj, List.getElem?_drop] at hc
            rw [Array.getElem?_extract] at hu
            split at hu
            · exact hr _ _ _ hc hu
            · cases hu
          · rw [List.getElem?_take, if_neg hj] at hc; cases hc
        · rename_i ha
          have hlt : m.toNat * i.size < vs.size := by rw [hl]; exact hQ.1
          exact good_same hs (v := vs[m.toNat * i.size]) (by simp [execOp, ho, hve, hve2, Instr.index, asIntOf, run_underlying ht, h0, h1, part, run_isAgg w hd, ha, run_sizeOf w hi, hlt]) (hr _ _ _ (nth_get hQ.1) (by simp [hlt])) hQ.2
  · exact h.elim

theorem splice_get {cs xs : List D} {off : Nat} (h : off + xs.length ≤ cs.length) (j : Nat) :
    (splice cs off xs)[j]? = if j < off then cs[j]? else if j < off + xs.length then xs[j - off]? else cs[j]? := by
  unfold splice
  have hmin : min off cs.length = off := by omega
  by_cases h1 : j < off
  · rw [List.append_assoc, List.getElem?_append_left (by simp [hmin]; exact h1), List.getElem?_take, if_pos h1, if_pos h1]
  · rw [if_neg h1]
    by_cases h2 : j < off + xs.length
    · rw [if_pos h2, List.getElem?_append_left (by simp [hmin]; exact h2), List.getElem?_append_right (by simp [hmin]; omega)]
      simp [hmin]
    · rw [if_neg h2, List.getElem?_append_right (by simp [hmin]; omega), List.getElem?_drop]
      congr 1
      simp [hmin]; omega

theorem splice_length {cs xs : List D} {off : Nat} (h : off + xs.length ≤ cs.length) : (splice cs off xs).length = cs.length := by
  unfold splice; simp; omega

theorem sound_store {t : TypeId} {x y : Operand} {i : TypeInfo} (hs : SimA s a w M) (ho : o.op = .store t x y) (hi : P.info? t = some i) (h0 : i.size ≠ 0)
    (h : run s o.dst K (.store i.size (opd x) (opd y))) : Good P s o a w M K := by
  simp only [run] at h
  have hx := val_rep hs x
  have hy := val_rep hs y
  split at h
  · rename_i b ver off hv
    rw [hv] at hx
    obtain ⟨cs, hb, hlen, hone, hfit, hK⟩ := at_spec h
    have hne : cs ≠ [] := by rintro rfl; simp at hfit; omega
    obtain ⟨hver, c, base, C, e, hl, hc, hsz, hrep⟩ := at_mem hs hb hne
    have hve := rep_ptr hx hver hl
    have hsol : (s.val (opd y)).solid = true := by
      cases hd : s.val (opd y) <;> first | rfl | (rw [hd] at hone hlen; simp [D.cells, D.one] at hone)
    obtain ⟨hy1, hy2⟩ := rep_solid hy hsol
    have h1 : ∀ v ∈ (a.eval y).cells.toList, v.oneCell' = true := fun v hvm => by
      obtain ⟨j, hj⟩ := List.mem_iff_getElem?.1 hvm
      have hj' : j < (s.val (opd y)).cells.length := by rw [← hy1, ← Array.length_toList]; exact (List.getElem?_eq_some_iff.1 hj).1
      exact rep_one (hy2 j _ v (nth_get hj') (by simpa using hj)) (hone _ (List.mem_of_getElem? (nth_get hj')))
    have hst := run_storeCells_at P c (base + off) e (a.eval y).cells.toList 0 C w hc (by simp; omega) h1
    have hrun : (execOp a.eval o).run P w = .ok .skip (w.setRow c (C.toList.take (base + off) ++ (a.eval y).cells.toList ++ C.toList.drop (base + off + (a.eval y).cells.toList.length)).toArray) := by
      simp only [Nat.add_zero] at hst
      simp [execOp, ho, hve, Instr.storeAt, Instr.sureAddr, storeVar, run_sizeOf w hi, hy1, hlen]
      simp [hy1, hlen] at hst
      rw [hst]; rfl
    have hC' : (C.toList.take (base + off) ++ (a.eval y).cells.toList ++ C.toList.drop (base + off + (a.eval y).cells.toList.length)).toArray.size = C.size := by
      simp; omega
    obtain ⟨hst', hsim'⟩ := sim_put (w' := w.setRow c (C.toList.take (base + off) ++ (a.eval y).cells.toList ++ C.toList.drop (base + off + (a.eval y).cells.toList.length)).toArray) hs.sim b c base (by rw [hb]; rfl) C _ e hl hc
      (by simp) (fun k hk => setRow_other w c k _ hk) (setRow_heap w c C _ e _ hc) hC' ver base (splice cs off (s.val (opd y)).cells) (.inl ⟨by rw [hb], rfl⟩) (by rw [splice_length (by omega)]; exact hsz) (fun j d hd => by
        rw [splice_get (by omega)] at hd
        have hmin : min (base + off) C.toList.length = base + off := by simp; omega
        simp only [List.getElem?_toArray]
        split at hd
        · rename_i hj
          obtain ⟨v, hv1, hv2⟩ := hrep j d hd
          refine ⟨v, ?_, hv2⟩
          rw [List.append_assoc, List.getElem?_append_left (by simp; omega), List.getElem?_take, if_pos (by omega)]
          simpa using hv1
        · split at hd
          · rename_i hj hj2
            have hlt : j - off < (a.eval y).cells.size := by rw [hy1]; omega
            refine ⟨(a.eval y).cells[j - off], ?_, hy2 (j - off) d _ hd (by simp [hlt])⟩
            rw [List.getElem?_append_left (by simp; omega), List.getElem?_append_right (by simp; omega)]
            have e1 : base + j - min (base + off) C.size = j - off := by omega
            simp [e1, hlt]
          · rename_i hj hj2
            obtain ⟨v, hv1, hv2⟩ := hrep j d hd
            refine ⟨v, ?_, hv2⟩
            rw [List.getElem?_append_right (by simp; omega), List.getElem?_drop]
            have e1 : base + off + (a.eval y).cells.toList.length + (base + j - (C.toList.take (base + off) ++ (a.eval y).cells.toList).length) = base + j := by simp; omega
            rw [e1]; simpa using hv1)
    exact ⟨undef, _, _, _, _, hK, inr_old (by rw [hb]; simp), .inr ⟨hrun, rfl⟩, hst', hsim', .top _⟩
  · exact h.elim

end Abs
end Go.Proofs.Ytfojedaccfenfab
