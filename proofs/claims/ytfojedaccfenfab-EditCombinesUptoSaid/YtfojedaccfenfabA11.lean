/- What the operations' abstract run says holds of the model's run: append. -/
import Derived.Test.YtfojedaccfenfabA10
namespace Go.Proofs.Ytfojedaccfenfab
namespace Abs
variable {P : Program} {s : St} {o : Oper} {a : Act} {w : World} {M : Ctx} {K : D → Chg → Prop}

/-- what an append reads -/
structure Src (w : World) (M : Ctx) (m sz : Nat) (news : List D) (v : Value) : Prop where
  len : news.length = m * sz
  src : ∃ (p : Option Addr) (c : Nat) (vals : List Value), v = .slice p m c ∧ vals.length = m * sz ∧ (∀ (j : Nat) (d : D) (u : Value), news[j]? = some d → vals[j]? = some u → Rep w M d u) ∧
    ((m = 0) ∨ ∃ ad, p = some ad ∧ ∀ (j : Nat) (u : Value), vals[j]? = some u → w.cell? (ad.add j) = some u)

theorem flatMap_len {l : List D} {sz : Nat} (h : ∀ x ∈ l, x.cells.length = sz) : (l.flatMap D.cells).length = l.length * sz := by
  induction l with
  | nil => simp
  | cons x l ih =>
    simp only [List.flatMap_cons, List.length_append, List.length_cons, Nat.add_mul]
    rw [h x (by simp), ih fun y hy => h y (by simp [hy])]
    omega

theorem flatMap_get {sz : Nat} (h0 : sz ≠ 0) : ∀ {l : List D} (_ : ∀ x ∈ l, x.cells.length = sz) (j : Nat) (d : D), (l.flatMap D.cells)[j]? = some d → ∃ x, l[j / sz]? = some x ∧ x.cells[j % sz]? = some d
  | [], _, j, d, hd => by simp at hd
  | x :: l, h, j, d, hd => by
    have hx := h x (by simp)
    simp only [List.flatMap_cons] at hd
    by_cases hj : j < sz
    · rw [List.getElem?_append_left (by omega)] at hd
      rw [Nat.div_eq_of_lt hj, Nat.mod_eq_of_lt hj]
      exact ⟨x, by simp, hd⟩
    · rw [List.getElem?_append_right (by omega), hx] at hd
      obtain ⟨y, hy, hd'⟩ := flatMap_get h0 (fun z hz => h z (by simp [hz])) (j - sz) d hd
      have h1 : j / sz = (j - sz) / sz + 1 := by
        rw [Nat.div_eq_sub_div (by omega) (by omega)]
      have h2 : (j - sz) % sz = j % sz := by
        have := Nat.add_mod_right (j - sz) sz
        rw [Nat.sub_add_cancel (by omega)] at this
        exact this.symm
      rw [h1, ← h2]
      exact ⟨y, by simpa using hy, hd'⟩

theorem src_spec (hs : SimA s a w M) {y : Operand} {sz : Nat} (h0 : sz ≠ 0) {Q : Nat → List D → Prop} (h : srcOf s sz (s.val (opd y)) Q) : ∃ m news, Src w M m sz news (a.eval y) ∧ Q m news := by
  have hy := val_rep hs y
  generalize a.eval y = v at hy
  unfold srcOf at h
  split at h
  · rename_i hv
    rw [hv] at hy
    cases hy with
    | nils => exact ⟨0, [], ⟨by simp, none, 0, [], rfl, by simp, by simp, .inl rfl⟩, h⟩
  · rename_i hv
    rw [hv] at hy
    cases hy with
    | emp p => exact ⟨0, [], ⟨by simp, p, 0, [], rfl, by simp, by simp, .inl rfl⟩, h⟩
  · rename_i l hv
    rw [hv] at hy
    obtain ⟨hcs, hQ⟩ := h
    refine ⟨_, _, ⟨flatMap_len hcs, ?_⟩, hQ⟩
    cases hy with
    | lst0 p c => exact ⟨p, c, [], rfl, by simp, by simp, .inl rfl⟩
    | lst _ ad c sz' u hcc hsp hb hlive hsz hcell hr =>
      by_cases hl : l = []
      · subst hl; exact ⟨_, c, [], rfl, by simp, by simp, .inl rfl⟩
      have hszi : sz' = sz := by
        obtain ⟨x, hx⟩ := List.exists_mem_of_ne_nil l hl
        rw [← hsz x hx, hcs x hx]
      subst hszi
      refine ⟨_, c, (List.range (l.length * sz')).map fun j => u (j / sz') (j % sz'), rfl, by simp, fun j d v hd hv => ?_, .inr ⟨ad, rfl, fun j v hv => ?_⟩⟩
      · obtain ⟨x, hx, hd'⟩ := flatMap_get h0 hcs j d hd
        have hj : j < l.length * sz' := by rw [← flatMap_len hcs]; exact (List.getElem?_eq_some_iff.1 hd).1
        simp [hj] at hv
        rw [← hv]
        exact hr _ x hx _ d hd'
      · have hj : j < l.length * sz' := by simpa using (List.getElem?_eq_some_iff.1 hv).1
        simp [hj] at hv
        have hdiv : j / sz' < l.length := (Nat.div_lt_iff_lt_mul (by omega)).2 hj
        have hx := nth_get hdiv
        have hmod : j % sz' < (nth l (j / sz')).cells.length := by rw [hcs _ (List.mem_of_getElem? hx)]; exact Nat.mod_lt _ (by omega)
        have := hcell _ _ hx _ _ (nth_get hmod)
        rw [Nat.mul_comm, Nat.div_add_mod] at this
        rw [← hv]
        exact this
  · rename_i sz' b ver off len hv
    rw [hv] at hy
    obtain ⟨rfl, hat⟩ := h
    obtain ⟨cs, hb, hfit, hQ⟩ := at_spec hat
    have hM1 := hs.sim.ver b
    have hM2 := hs.sim.con b
    rw [hb] at hM1 hM2
    have hlen : ((cs.drop off).take (len * sz')).length = len * sz' := by simp; omega
    refine ⟨_, _, ⟨hlen, ?_⟩, hQ⟩
    cases hy with
    | ref _ _ _ _ _ _ hle hp hv' =>
      have hp' := hp hM1
      rcases hM2 with ⟨a', hloc, hcs⟩ | ⟨c, base, C, e', hloc, hc, hsz, hrep⟩
      · rw [hloc] at hp'
        obtain ⟨_, h2, h3⟩ := hp'
        subst h2; subst h3
        exact ⟨_, _, [], rfl, by simp, by simp, .inl rfl⟩
      · rw [hloc] at hp'
        rcases hp' with ⟨h2, p, h3⟩ | ⟨cap, h3, _⟩
        · subst h2; subst h3
          exact ⟨_, _, [], rfl, by simp, by simp, .inl rfl⟩
        · subst h3
          have hex : ∀ j, ∃ v, j < len * sz' → C[base + (off + j)]? = some v ∧ Rep w M (nth cs (off + j)) v := fun j => by
            by_cases hj : j < len * sz'
            · obtain ⟨v, h1, h2⟩ := hrep (off + j) _ (nth_get (by omega))
              exact ⟨v, fun _ => ⟨h1, h2⟩⟩
            · exact ⟨undef, fun h => absurd h hj⟩
          let f : Nat → Value := fun j => Classical.choose (hex j)
          have hf : ∀ j, j < len * sz' → C[base + (off + j)]? = some (f j) ∧ Rep w M (nth cs (off + j)) (f j) := fun j hj => Classical.choose_spec (hex j) hj
          refine ⟨_, _, (List.range (len * sz')).map f, rfl, by simp, fun j d v hd hv => ?_, .inr ⟨_, rfl, fun j v hv => ?_⟩⟩
          · have hj : j < len * sz' := by rw [← hlen]; exact (List.getElem?_eq_some_iff.1 hd).1
            have hv2 : v = f j := by simpa [hj] using hv.symm
            have hd2 : d = nth cs (off + j) := by
              rw [List.getElem?_take, if_pos hj, List.getElem?_drop, nth_get (by omega)] at hd
              exact (Option.some.inj hd).symm
            rw [hv2, hd2]
            exact (hf j hj).2
          · have hj : j < len * sz' := by simpa using (List.getElem?_eq_some_iff.1 hv).1
            have hv2 : v = f j := by simpa [hj] using hv.symm
            rw [hv2, Addr.lit_add]
            have := (hf j hj).1
            simp only [World.cell?, hc]
            rw [Nat.add_assoc]
            simpa using this
  · exact h.elim

/-- the builtin's run where there is room -/
theorem run_append_fit {t ty e : TypeId} {i : TypeInfo} (ht : P.underlying t = some (.slice e)) (hi : P.info? e = some i) {g o len cap : Nat} {cur : Array Value} {e' : TypeId} (hg : w.heap[g]? = some (.cells cur e' (0, 0)))
    {p : Option Addr} {m c : Nat} {vals : List Value} (_hl : vals.length = m * i.size) (hfc : (Builtin.firstCells i.size m (.slice p m c)).run P w = .ok vals.toArray w) (h1 : ∀ u ∈ vals, u.oneCell' = true)
    (hroom : len + m ≤ cap) (hfit : o + len * i.size + vals.length ≤ cur.size) :
    (Builtin.append_ #[t, t] ty #[.slice (some ⟨g, o, none⟩) len cap, .slice p m c]).run P w =
      .ok (.slice (some ⟨g, o, none⟩) (len + m) cap) (w.setRow g (cur.toList.take (o + len * i.size) ++ vals ++ cur.toList.drop (o + len * i.size + vals.length)).toArray) := by
  have hst := run_storeCells_at P g (o + len * i.size) e' vals 0 cur w hg (by simpa using hfit) h1
  simp only [Nat.add_zero] at hst
  simp [Builtin.append_, run_underlying ht, sizeOf, typeInfo, hi, Builtin.lenOf, hroom, hfc, Addr.lit_add, hst]

theorem run_append_new {t ty e : TypeId} {i : TypeInfo} {z : Value} (ht : P.underlying t = some (.slice e)) (hi : P.info? e = some i) (hz : i.zero = some z)
    {q : Option Addr} {len cap : Nat} {olds : List Value} (holds : (Builtin.firstCells i.size len (.slice q len cap)).run P w.drew = .ok olds.toArray w.drew)
    {p : Option Addr} {m c : Nat} {vals : List Value} (hfc : (Builtin.firstCells i.size m (.slice p m c)).run P w.drew = .ok vals.toArray w.drew)
    (hg : cap < len + m) (h63 : ((len + m : Nat) : Int) ≤ 9223372036854775807) (hfit : Builtin.nextslicecap (len + m) cap * i.bytes ≤ 281474976710656) :
    (Builtin.append_ #[t, t] ty #[.slice q len cap, .slice p m c]).run P w =
      .ok (.slice (some ⟨w.heap.size, 0, none⟩) (len + m) (grownCap w (len + m) cap e))
        (w.drew.alloc (.cells (olds ++ vals ++ (Builtin.zeroCells z.cells (grownCap w (len + m) cap e - (len + m))).toList).toArray e)) := by
  have hn : ¬ (len + m ≤ cap) := by omega
  have h63' : ¬ (9223372036854775807 < ((len : Int) + (m : Int))) := by omega
  have h48' : ¬ (281474976710656 < Builtin.nextslicecap (len + m) cap * i.bytes) := by omega
  simp [Builtin.append_, run_underlying ht, sizeOf, typeInfo, zeroValue, hi, hz, Builtin.lenOf, hn, h63', h48', Question.forced, hfc, holds, newRow, grownCap]
  congr 2
  apply Array.ext'
  simp

theorem run_append_zeros {t tn ty e : TypeId} {i : TypeInfo} {z : Value} {kq kn : IntKind} (ht : P.underlying t = some (.slice e)) (htn : P.underlying tn = some (.int kn)) (hi : P.info? e = some i) (hz : i.zero = some z)
    {q : Option Addr} {k : Nat} (h0 : 0 < k) (hs : 0 < i.size) (h63 : (k : Int) ≤ 9223372036854775807) (h48 : k * i.bytes ≤ 281474976710656) (hfit : Builtin.nextslicecap k 0 * i.bytes ≤ 281474976710656) :
    (Builtin.append_ #[t, tn] ty #[.slice q 0 0, .int kq k]).run P w =
      .ok (.slice (some ⟨w.heap.size, 0, none⟩) k (grownCap w k 0 e)) (w.drew.alloc (.cells (Builtin.zeroCells z.cells k ++ Builtin.zeroCells z.cells (grownCap w k 0 e - k)) e)) := by
  have hold : (Builtin.firstCells i.size 0 (.slice q 0 0)).run P w.drew = .ok (#[] : Array Value) w.drew := by
    cases q with
    | none => simp [Builtin.firstCells]
    | some ad => exact run_firstCells_some (P := P) w.drew i.size 0 ad 0 0 [] (by simp) (by simp)
  have hk : k ≠ 0 := by omega
  have hw : IntKind.i64.wrap (k : Int) = k := by rw [IntKind.wrap_i64]; omega
  have h63' : ¬ (9223372036854775807 < (k : Int)) := by omega
  have h48' : ¬ (281474976710656 < Builtin.nextslicecap k 0 * i.bytes) := by omega
  have h48i : ¬ (281474976710656 < (k : Int) * (i.bytes : Int)) := by
    rw [← Int.natCast_mul]
    omega
  have hneg : ¬ ((k : Int) < 0) := by omega
  have hns : ¬ (k * i.size = 0) := Nat.mul_ne_zero hk (by omega)
  simp [Builtin.append_, run_underlying ht, run_underlying htn, sizeOf, typeInfo, zeroValue, hi, hz, asInt, asIntOf, hw, hneg, hns, hk, h63', h48', h48i, Question.forced, hold, newRow, grownCap]

theorem firstCells_src {m sz : Nat} {p : Option Addr} {c : Nat} {vals : List Value} (hl : vals.length = m * sz) {w' : World} (hw : ∀ x, w'.cell? x = w.cell? x)
    (hp : (m = 0) ∨ ∃ ad, p = some ad ∧ ∀ (j : Nat) (u : Value), vals[j]? = some u → w.cell? (ad.add j) = some u) : (Builtin.firstCells sz m (.slice p m c)).run P w' = .ok vals.toArray w' := by
  rcases hp with rfl | ⟨ad, rfl, hc⟩
  · have : vals = [] := List.eq_nil_of_length_eq_zero (by simpa using hl)
    subst this
    cases p with
    | none => simp [Builtin.firstCells]
    | some ad => exact run_firstCells_some (P := P) w' sz 0 ad 0 c [] (by simp) (by simp)
  · exact run_firstCells_some (P := P) w' sz m ad m c vals hl (fun j u hu => by rw [hw]; exact hc j u hu)

set_option maxHeartbeats 1000000 in
theorem sound_append {t e : TypeId} {x y : Operand} {i : TypeInfo} {z : Value} {c : Call} (hs : SimA s a w M) (ho : o.op = .call c) (hc : c.callee = .builtin .append) (hargs : c.args.toList = [x, y]) (htys : c.argTypes.toList = [t, t])
    (ht : P.underlying t = some (.slice e)) (hi : P.info? e = some i) (hz : i.zero = some z) (hzs : z.cells.size = i.size) (h0 : i.size ≠ 0) (hb0 : i.bytes ≠ 0)
    (h : run s o.dst K (.append i.size i.bytes (opd x) (opd y))) : Good P s o a w M K := by
  have hargs' : c.args = #[x, y] := by rw [← hargs]
  have htys' : c.argTypes = #[t, t] := by rw [← htys]
  simp only [run] at h
  have hx := val_rep hs x
  obtain ⟨m, news, hsrc, hone, h⟩ := src_spec hs h0 h
  obtain ⟨hnl, p, cp, vals, hvy, hvl, hvr, hvp⟩ := hsrc
  have hexec : ∀ u v' w', a.eval x = u → (Builtin.append_ #[t, t] o.type #[u, a.eval y]).run P w = .ok v' w' → (execOp a.eval o).run P w = .ok (.value v') w' := by
    intro u v' w' hu hr
    simp [execOp, ho, resolve, hc, hargs', htys', invoke, builtin, hu, hr]
  have hvone : ∀ u ∈ vals, u.oneCell' = true := fun u hu => by
    obtain ⟨j, hj⟩ := List.mem_iff_getElem?.1 hu
    have hj' : j < news.length := by rw [hnl, ← hvl]; exact (List.getElem?_eq_some_iff.1 hj).1
    exact rep_one (hvr j _ u (nth_get hj') hj) (hone _ (List.mem_of_getElem? (nth_get hj')))
  have hfc := firstCells_src (P := P) (w := w) (w' := w) (c := cp) (sz := i.size) hvl (fun _ => rfl) hvp
  have hfcd := firstCells_src (P := P) (w := w) (w' := w.drew) (c := cp) (sz := i.size) hvl (fun _ => rfl) hvp
  have hnews : ∀ (j : Nat) (d : D), news[j]? = some d → ∃ v, vals[j]? = some v ∧ Rep w M d v := fun j d hd => by
    have hj : j < vals.length := by rw [hvl, ← hnl]; exact (List.getElem?_eq_some_iff.1 hd).1
    exact ⟨vals[j], by simp [hj], hvr j d _ hd (by simp [hj])⟩
  -- into a slice without room
  have empty : ∀ (q : Option Addr) (b : Nat), (s.hp b).con.isOpq = false → a.eval x = .slice q 0 0 → m * i.bytes ≤ 140737488355328 →
      ∃ v' w' M', (execOp a.eval o).run P w = .ok (.value v') w' ∧ Step w M w' M' ∧ Sim w' M' (upd s.hp b ⟨(s.hp b).ver + 1, .cells news⟩) ∧ Rep w' M' (.ref i.size b ((s.hp b).ver + 1) 0 m) v' := by
    intro q b hnv hv hbytes
    by_cases hm : m = 0
    · subst hm
      have hn0 : news = [] := List.eq_nil_of_length_eq_zero (by simpa using hnl)
      have hv0 : vals = [] := List.eq_nil_of_length_eq_zero (by simpa using hvl)
      subst hn0
      subst hv0
      have hrun : (Builtin.append_ #[t, t] o.type #[.slice q 0 0, a.eval y]).run P w = .ok (.slice q 0 0) w := by
        rw [hvy]
        cases q <;> simp [Builtin.append_, run_underlying ht, sizeOf, typeInfo, hi, Builtin.lenOf, hfc, storeCells]
      obtain ⟨h1, h2⟩ := sim_nil (w' := w) hs.sim b hnv q rfl ((s.hp b).ver + 1) (Nat.lt_succ_self _)
      exact ⟨_, w, _, hexec _ _ _ hv hrun, h1, h2, .ref _ _ _ _ _ _ (by simp [updM]) (fun _ => by simp [updM, RefOk]) ⟨_, _, _, rfl⟩⟩
    · have hm2 : m ≤ m * i.bytes := Nat.le_mul_of_pos_right _ (by omega)
      have hold : (Builtin.firstCells i.size 0 (.slice q 0 0)).run P w.drew = .ok ([] : List Value).toArray w.drew :=
        firstCells_src (P := P) (w := w) (vals := []) (by simp) (fun _ => rfl) (.inl rfl)
      have hrun := run_append_new (ty := o.type) ht hi hz hold hfcd (by omega) (by omega) (by simpa using growslice_fits (by omega) (by simpa using hbytes))
      rw [← hvy] at hrun
      simp only [Nat.zero_add, List.nil_append] at hrun
      have hgc := grownCap_ge w m 0 e
      have hCs : (vals ++ (Builtin.zeroCells z.cells (grownCap w m 0 e - m)).toList).toArray.size = grownCap w m 0 e * i.size := by
        simp only [List.size_toArray, List.length_append, Array.length_toList, size_zeroCells, hvl, hzs, ← Nat.add_mul]
        congr 1; omega
      have hmsz : m * i.size ≤ grownCap w m 0 e * i.size := Nat.mul_le_mul_right _ hgc
      obtain ⟨h1, h2⟩ := sim_new (w' := w.drew.alloc (.cells (vals ++ (Builtin.zeroCells z.cells (grownCap w m 0 e - m)).toList).toArray e)) hs.sim b hnv _ e rfl news (by rw [hCs, hnl]; exact hmsz) (fun j d hd => by
        obtain ⟨v, hv1, hv2⟩ := hnews j d hd
        exact ⟨v, by
          have hj := (List.getElem?_eq_some_iff.1 hv1).1
          simp only [List.getElem?_toArray]
          rw [List.getElem?_append_left hj]; exact hv1, hv2⟩)
      refine ⟨_, _, _, hexec _ _ _ hv hrun, h1, h2, .ref _ _ _ _ _ _ (by simp [updM]) (fun _ => ?_) ⟨_, _, _, rfl⟩⟩
      simp only [updM, if_true]
      refine .inr ⟨grownCap w m 0 e, rfl, hgc, fun C1 e' fr' hc' => ?_⟩
      have hsz : (w.drew.alloc (.cells (vals ++ (Builtin.zeroCells z.cells (grownCap w m 0 e - m)).toList).toArray e)).heap[w.heap.size]? = some (.cells (vals ++ (Builtin.zeroCells z.cells (grownCap w m 0 e - m)).toList).toArray e (0, 0)) := by
        show (w.heap.push _)[w.heap.size]? = _
        simp
      rw [hsz] at hc'
      injection hc' with hc'; injection hc' with hc' _ _
      rw [← hc', hCs]
      omega
  split at h
  · rename_i hv
    rw [hv] at hx
    generalize hve : a.eval x = v at hx
    cases hx with
    | nils =>
      obtain ⟨hbytes, hnew⟩ := h
      obtain ⟨t', ht', hlt, hnv, hQ⟩ := new_spec hnew
      obtain ⟨v', w', M', hrun, h1, h2, h3⟩ := empty none (s.n + t') hnv hve hbytes
      exact ⟨v', w', _, _, M', hQ, inr_new hlt, .inl hrun, h1, h2, h3⟩
  · rename_i hv
    rw [hv] at hx
    generalize hve : a.eval x = v at hx
    cases hx with
    | emp q =>
      obtain ⟨hbytes, hnew⟩ := h
      obtain ⟨t', ht', hlt, hnv, hQ⟩ := new_spec hnew
      obtain ⟨v', w', M', hrun, h1, h2, h3⟩ := empty q (s.n + t') hnv hve hbytes
      exact ⟨v', w', _, _, M', hQ, inr_new hlt, .inl hrun, h1, h2, h3⟩
  · rename_i sz' b ver off len hv
    rw [hv] at hx
    obtain ⟨rfl, hat⟩ := h
    obtain ⟨cs, hb, hfit, hbytes, hK⟩ := at_spec hat
    have hnv : (s.hp b).con.isOpq = false := by rw [hb]; rfl
    have hir : ∀ x, s.inr [(b, x)] := fun x => inr_old (by rw [hb]; simp)
    have hM1 := hs.sim.ver b
    have hM2 := hs.sim.con b
    rw [hb] at hM1 hM2
    have hver : (s.hp b).ver = ver := by rw [hb]
    generalize hve : a.eval x = v at hx
    cases hx with
    | ref _ _ _ _ _ _ hle hp hv' =>
      have hp' := hp hM1
      have fromEmpty : ∀ q, v = .slice q 0 0 → len = 0 → Good P s o a w M K := by
        intro q hvq hl0
        subst hvq
        subst hl0
        obtain ⟨v', w', M', hrun, h1, h2, h3⟩ := empty q b hnv hve (by simpa using hbytes)
        rw [hver] at h2 h3
        simp only [Nat.zero_mul, List.take_zero, List.nil_append, Nat.zero_add] at hK
        exact ⟨v', w', _, _, M', hK, hir _, .inl hrun, h1, h2, h3⟩
      rcases hM2 with ⟨a', hloc, hcs⟩ | ⟨cb, base, C, e', hloc, hcc, hsz, hrep⟩
      · rw [hloc] at hp'
        exact fromEmpty a' hp'.2.2 hp'.2.1
      · rw [hloc] at hp'
        rcases hp' with ⟨h3, q, h4⟩ | ⟨cap, rfl, hcap, hroom⟩
        · exact fromEmpty q h4 h3
        · have hroomC := hroom C e' (0, 0) hcc
          by_cases hrm : len + m ≤ cap
          · -- in place
            have hlm : (len + m) * i.size ≤ cap * i.size := Nat.mul_le_mul_right _ hrm
            rw [Nat.add_mul] at hlm
            have hrun := run_append_fit (ty := o.type) (vals := vals) (o := base + off) (m := m) (p := p) (c := cp) ht hi hcc hvl hfc hvone hrm (by omega)
            rw [← hvy] at hrun
            have hC' : (C.toList.take (base + off + len * i.size) ++ vals ++ C.toList.drop (base + off + len * i.size + vals.length)).toArray.size = C.size := by
              simp; omega
            obtain ⟨h1, h2⟩ := sim_put (w' := w.setRow cb (C.toList.take (base + off + len * i.size) ++ vals ++ C.toList.drop (base + off + len * i.size + vals.length)).toArray) hs.sim b cb base hnv C _ e' hloc hcc
              (by simp) (fun k hk => setRow_other w cb k _ hk) (setRow_heap w cb C _ e' _ hcc) hC' (ver + 1) (base + off) ((cs.drop off).take (len * i.size) ++ news) (.inr (by rw [hver]; exact Nat.lt_succ_self _))
              (by simp only [List.length_append, List.length_take, List.length_drop, hnl]; omega) (fun j d hd => by
                have hl1 : ((cs.drop off).take (len * i.size)).length = len * i.size := by simp; omega
                have hmin : min (base + off + len * i.size) C.toList.length = base + off + len * i.size := by simp; omega
                simp only [List.getElem?_toArray]
                by_cases hj : j < len * i.size
                · rw [List.getElem?_append_left (by omega), List.getElem?_take, if_pos hj, List.getElem?_drop] at hd
                  obtain ⟨v, hv1, hv2⟩ := hrep _ d hd
                  refine ⟨v, ?_, hv2⟩
                  rw [List.append_assoc, List.getElem?_append_left (by simp; omega), List.getElem?_take, if_pos (by omega)]
                  rw [show base + off + j = base + (off + j) by omega]
                  simpa using hv1
                · rw [List.getElem?_append_right (by omega), hl1] at hd
                  obtain ⟨v, hv1, hv2⟩ := hnews _ d hd
                  have hlt := (List.getElem?_eq_some_iff.1 hv1).1
                  refine ⟨v, ?_, hv2⟩
                  rw [List.getElem?_append_left (by simp; omega), List.getElem?_append_right (by simp; omega)]
                  have e1 : base + off + j - (C.toList.take (base + off + len * i.size)).length = j - len * i.size := by simp; omega
                  rw [e1]; exact hv1)
            refine ⟨_, _, _, _, _, hK, hir _, .inl (hexec _ _ _ hve hrun), h1, h2, .ref _ _ _ _ _ _ (by simp [updM]) (fun _ => ?_) ⟨_, _, _, rfl⟩⟩
            simp only [updM, if_true]
            refine .inr ⟨cap, rfl, hrm, fun C1 e1 fr1 hc1 => ?_⟩
            rw [setRow_heap w cb C _ e' _ hcc] at hc1
            injection hc1 with hc1; injection hc1 with hc1 _ _
            rw [← hc1, hC']
            omega
          · -- a new array
            have hm2 : len + m ≤ (len + m) * i.bytes := Nat.le_mul_of_pos_right _ (by omega)
            have hex : ∀ j, ∃ v, j < len * i.size → C[base + (off + j)]? = some v ∧ Rep w M (nth cs (off + j)) v := fun j => by
              by_cases hj : j < len * i.size
              · obtain ⟨v, h1, h2⟩ := hrep (off + j) _ (nth_get (by omega))
                exact ⟨v, fun _ => ⟨h1, h2⟩⟩
              · exact ⟨undef, fun h => absurd h hj⟩
            let f : Nat → Value := fun j => Classical.choose (hex j)
            have hf : ∀ j, j < len * i.size → C[base + (off + j)]? = some (f j) ∧ Rep w M (nth cs (off + j)) (f j) := fun j hj => Classical.choose_spec (hex j) hj
            have hold : (Builtin.firstCells i.size len (.slice (some ⟨cb, base + off, none⟩) len cap)).run P w.drew = .ok ((List.range (len * i.size)).map f).toArray w.drew := by
              refine run_firstCells_some (P := P) w.drew i.size len _ len cap _ (by simp) fun j v hv => ?_
              have hj : j < len * i.size := by simpa using (List.getElem?_eq_some_iff.1 hv).1
              have hv2 : v = f j := by simpa [hj] using hv.symm
              rw [hv2, Addr.lit_add]
              have := (hf j hj).1
              show w.cell? _ = _
              simp only [World.cell?, hcc]
              rw [Nat.add_assoc]
              simpa using this
            have hrun := run_append_new (ty := o.type) ht hi hz hold hfcd (by omega) (by omega) (growslice_fits (by omega) hbytes)
            rw [← hvy] at hrun
            have hgc := grownCap_ge w (len + m) cap e
            have hCs : ((List.range (len * i.size)).map f ++ vals ++ (Builtin.zeroCells z.cells (grownCap w (len + m) cap e - (len + m))).toList).toArray.size = grownCap w (len + m) cap e * i.size := by
              simp only [List.size_toArray, List.length_append, Array.length_toList, size_zeroCells, hvl, hzs, List.length_map, List.length_range, ← Nat.add_mul]
              congr 1; omega
            have hmsz : (len + m) * i.size ≤ grownCap w (len + m) cap e * i.size := Nat.mul_le_mul_right _ hgc
            have hl1 : ((cs.drop off).take (len * i.size)).length = len * i.size := by simp; omega
            obtain ⟨h1, h2⟩ := sim_new (w' := w.drew.alloc (.cells ((List.range (len * i.size)).map f ++ vals ++ (Builtin.zeroCells z.cells (grownCap w (len + m) cap e - (len + m))).toList).toArray e)) hs.sim b hnv _ e rfl
              ((cs.drop off).take (len * i.size) ++ news) (by rw [hCs, List.length_append, hl1, hnl, ← Nat.add_mul]; exact hmsz) (fun j d hd => by
                simp only [List.getElem?_toArray]
                by_cases hj : j < len * i.size
                · rw [List.getElem?_append_left (by omega), List.getElem?_take, if_pos hj, List.getElem?_drop, nth_get (by omega)] at hd
                  injection hd with hd
                  refine ⟨f j, ?_, by rw [← hd]; exact (hf j hj).2⟩
                  rw [List.append_assoc, List.getElem?_append_left (by simpa using hj)]
                  simp [hj]
                · rw [List.getElem?_append_right (by omega), hl1] at hd
                  obtain ⟨v, hv1, hv2⟩ := hnews _ d hd
                  have hlt := (List.getElem?_eq_some_iff.1 hv1).1
                  refine ⟨v, ?_, hv2⟩
                  rw [List.getElem?_append_left (by simp; omega), List.getElem?_append_right (by simp; omega)]
                  simpa using hv1)
            rw [hver] at h2
            rw [hver] at h1
            refine ⟨_, _, _, _, _, hK, hir _, .inl (hexec _ _ _ hve hrun), h1, h2, .ref _ _ _ _ _ _ (by simp [updM]) (fun _ => ?_) ⟨_, _, _, rfl⟩⟩
            simp only [updM, if_true]
            refine .inr ⟨grownCap w (len + m) cap e, rfl, hgc, fun C1 e1 fr1 hc1 => ?_⟩
            have hszz : (w.drew.alloc (.cells ((List.range (len * i.size)).map f ++ vals ++ (Builtin.zeroCells z.cells (grownCap w (len + m) cap e - (len + m))).toList).toArray e)).heap[w.heap.size]? = some (.cells ((List.range (len * i.size)).map f ++ vals ++ (Builtin.zeroCells z.cells (grownCap w (len + m) cap e - (len + m))).toList).toArray e (0, 0)) := by
              show (w.heap.push _)[w.heap.size]? = _
              simp
            rw [hszz] at hc1
            injection hc1 with hc1; injection hc1 with hc1 _ _
            rw [← hc1, hCs]
            omega
  · exact h.elim

theorem sound_appendz {t tn e : TypeId} {kn : IntKind} {x y : Operand} {i : TypeInfo} {z : Value} {c : Call} (hs : SimA s a w M) (ho : o.op = .call c) (hc : c.callee = .builtin .append) (hargs : c.args.toList = [x, y]) (htys : c.argTypes.toList = [t, tn])
    (ht : P.underlying t = some (.slice e)) (htn : P.underlying tn = some (.int kn)) (hi : P.info? e = some i) (hz : i.zero = some z) (hzs : z.cells.size = i.size) (h0 : i.size ≠ 0) (hb0 : i.bytes ≠ 0)
    (h : run s o.dst K (.appendz i.size i.bytes (litD z).cells (opd x) (opd y))) : Good P s o a w M K := by
  have hargs' : c.args = #[x, y] := by rw [← hargs]
  have htys' : c.argTypes = #[t, tn] := by rw [← htys]
  simp only [run] at h
  have hx := val_rep hs x
  have hy := val_rep hs y
  have main : ∀ (q : Option Addr) (k : Int), a.eval x = .slice q 0 0 → a.eval y = .int .i64 k → 0 < k → k * i.bytes ≤ 140737488355328 →
      (s.new o.dst (.cells (List.replicate k.toNat (litD z).cells).flatten) fun id ver δ => K (.ref i.size id ver 0 k.toNat) δ) → Good P s o a w M K := by
    intro q k hvx hvy hk0 hkb hnew
    obtain ⟨k, rfl⟩ : ∃ m : Nat, k = m := ⟨k.toNat, by omega⟩
    simp only [Int.toNat_natCast] at hnew
    obtain ⟨t', ht', hlt, hnv, hQ⟩ := new_spec hnew
    have hkb' : k * i.bytes ≤ 140737488355328 := by
      have : ((k * i.bytes : Nat) : Int) ≤ 140737488355328 := by rw [Int.natCast_mul]; exact hkb
      omega
    have hm2 : k ≤ k * i.bytes := Nat.le_mul_of_pos_right _ (by omega)
    have hrun := run_append_zeros (w := w) (ty := o.type) (kq := .i64) (q := q) (k := k) ht htn hi hz (by omega) (by omega) (by omega) (by omega) (growslice_fits (by omega) hkb')
    have hexec : (execOp a.eval o).run P w = .ok (.value (.slice (some ⟨w.heap.size, 0, none⟩) k (grownCap w k 0 e))) (w.drew.alloc (.cells (Builtin.zeroCells z.cells k ++ Builtin.zeroCells z.cells (grownCap w k 0 e - k)) e)) := by
      simp [execOp, ho, resolve, hc, hargs', htys', invoke, builtin, hvx, hvy, hrun]
    have hgc := grownCap_ge w k 0 e
    have hCs : (Builtin.zeroCells z.cells k ++ Builtin.zeroCells z.cells (grownCap w k 0 e - k)).size = grownCap w k 0 e * i.size := by
      simp only [Array.size_append, size_zeroCells, hzs, ← Nat.add_mul]
      congr 1; omega
    have hmsz : k * i.size ≤ grownCap w k 0 e * i.size := Nat.mul_le_mul_right _ hgc
    obtain ⟨h1, h2⟩ := sim_new (w' := w.drew.alloc (.cells (Builtin.zeroCells z.cells k ++ Builtin.zeroCells z.cells (grownCap w k 0 e - k)) e)) hs.sim (s.n + t') hnv _ e rfl ((List.replicate k (litD z).cells).flatten)
      (by rw [hCs, flat_len, ← (litD_cells w M z).1, hzs]; exact hmsz) (fun j d hd => by
        obtain ⟨v, hv1, hv2⟩ := zeros_rep w M z (by omega) k (k * z.cells.size) (Nat.le_refl _) j d hd
        refine ⟨v, ?_, hv2⟩
        rw [Array.getElem?_append_left]
        · exact hv1
        · exact (Array.getElem?_eq_some_iff.1 hv1).1)
    refine ⟨_, _, _, _, _, hQ, inr_new hlt, .inl hexec, h1, h2, .ref _ _ _ _ _ _ (by simp [updM]) (fun _ => ?_) ⟨_, _, _, rfl⟩⟩
    simp only [updM, if_true]
    refine .inr ⟨grownCap w k 0 e, rfl, hgc, fun C1 e' fr' hc' => ?_⟩
    have hsz : (w.drew.alloc (.cells (Builtin.zeroCells z.cells k ++ Builtin.zeroCells z.cells (grownCap w k 0 e - k)) e)).heap[w.heap.size]? = some (.cells (Builtin.zeroCells z.cells k ++ Builtin.zeroCells z.cells (grownCap w k 0 e - k)) e (0, 0)) := by
      show (w.heap.push _)[w.heap.size]? = _
      simp
    rw [hsz] at hc'
    injection hc' with hc'; injection hc' with hc' _ _
    rw [← hc', hCs]
    omega
  split at h
  · rename_i k hv hv2
    rw [hv] at hx
    rw [hv2] at hy
    generalize hve : a.eval x = u at hx
    generalize hve2 : a.eval y = u2 at hy
    cases hx
    cases hy
    exact main _ _ hve hve2 h.1 h.2.1 h.2.2
  · rename_i k hv hv2
    rw [hv] at hx
    rw [hv2] at hy
    generalize hve : a.eval x = u at hx
    generalize hve2 : a.eval y = u2 at hy
    cases hx
    cases hy
    exact main _ _ hve hve2 h.1 h.2.1 h.2.2
  · exact h.elim

theorem sound_capz {e : TypeId} {x : Operand} {c : Call} (hs : SimA s a w M) (ho : o.op = .call c) (hc : c.callee = .builtin .cap) (hargs : c.args.toList = [x]) {t : TypeId} (ht1 : c.argTypes[0]? = some t) (ht2 : P.underlying t = some (.slice e))
    (h : run s o.dst K (.capz (opd x))) : Good P s o a w M K := by
  have hargs' : c.args = #[x] := by rw [← hargs]
  simp only [run] at h
  have hx := val_rep hs x
  have hexec : ∀ q, a.eval x = .slice q 0 0 → (execOp a.eval o).run P w = .ok (.value (.int .i64 0)) w := fun q hv => by
    simp [execOp, ho, resolve, hc, hargs', invoke, builtin, hv, Builtin.cap_, ht1, run_underlying ht2, goInt]
  split at h
  · rename_i hv
    rw [hv] at hx
    generalize hve : a.eval x = u at hx
    cases hx
    exact good_same hs (hexec _ hve) (.int ..) h
  · rename_i hv
    rw [hv] at hx
    generalize hve : a.eval x = u at hx
    cases hx
    exact good_same hs (hexec _ hve) (.int ..) h
  · exact h.elim

end Abs
end Go.Proofs.Ytfojedaccfenfab
