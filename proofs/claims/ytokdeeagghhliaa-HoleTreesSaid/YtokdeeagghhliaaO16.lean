/- The table: parts. -/
import Derived.Test.YtokdeeagghhliaaO15
namespace Go.Proofs.Ytokdeeagghhliaa
namespace Abs
set_option linter.unusedVariables false
set_option linter.unusedSimpArgs false
set_option maxRecDepth 20000

/-- more blocks, all of them unused -/
theorem le_ghost {n : Nat} {sl : List D} {h : Heap} {lc : List Blk} (k : Nat) : Abs.Le (St.mk n sl h lc) (St.mk n sl h (lc ++ List.replicate k blk0)) := by
  have e : mrg n h (lc ++ List.replicate k blk0) = mrg n h lc := by
    funext b
    unfold mrg
    split
    · rfl
    · simp only [List.getD, List.getElem?_append, List.getElem?_replicate]
      split
      · rfl
      · rename_i h2
        rw [List.getElem?_eq_none (by omega)]
        split <;> rfl
  refine ⟨rfl, fun a w M hs => ⟨M, ⟨hs.defers, hs.size, hs.sl, ?_⟩, .refl ..⟩⟩
  show Sim w M (mrg n h (lc ++ List.replicate k blk0))
  rw [e]; exact hs.sim

/-- slots of which less is told -/
def Tops : List D → List D → Prop
  | [], [] => True
  | d :: l, d' :: l' => (d' = .top ∨ d' = d) ∧ Tops l l'
  | _, _ => False
theorem Tops.len : ∀ {l l' : List D}, Tops l l' → l'.length = l.length
  | [], [], _ => rfl
  | d :: l, d' :: l', h => by simp only [List.length_cons, Tops.len h.2]
  | [], _ :: _, h => h.elim
  | _ :: _, [], h => h.elim
theorem Tops.get : ∀ {l l' : List D}, Tops l l' → ∀ (t : Nat) (d d' : D), l[t]? = some d → l'[t]? = some d' → d' = .top ∨ d' = d
  | [], [], _, t, d, d', h, _ => by simp at h
  | a :: l, a' :: l', h, 0, d, d', h1, h2 => by
    simp at h1 h2; subst h1; subst h2; exact h.1
  | a :: l, a' :: l', h, t + 1, d, d', h1, h2 => Tops.get h.2 t d d' (by simpa using h1) (by simpa using h2)
theorem Tops.refl : ∀ l : List D, Tops l l
  | [] => trivial
  | d :: l => ⟨.inr rfl, Tops.refl l⟩
theorem tops_top (d : D) (l l' : List D) : Tops (d :: l) (.top :: l') = Tops l l' := by simp [Tops]
theorem tops_same (d : D) (l l' : List D) : Tops (d :: l) (d :: l') = Tops l l' := by simp [Tops]
theorem tops_nil : Tops [] [] = True := rfl
theorem le_tops {n : Nat} {sl sl' : List D} {h : Heap} {lc : List Blk} (ht : Tops sl sl') : Abs.Le (St.mk n sl h lc) (St.mk n sl' h lc) := by
  refine ⟨rfl, fun a w M hs => ⟨M, ⟨hs.defers, hs.size.trans ht.len.symm, fun t d' v hd' hv => ?_, hs.sim⟩, .refl ..⟩⟩
  have hlt : t < sl.length := by rw [← ht.len]; exact (List.getElem?_eq_some_iff.1 hd').1
  rcases ht.get t _ d' (nth_get hlt) hd' with rfl | rfl
  · exact .top _
  · exact hs.sl t _ v (nth_get hlt) hv

theorem nth_put {C : List D} {c c' : Nat} (d : D) (hc : c < C.length) : nth (C.take c ++ [d] ++ C.drop (c + 1)) c' = if c' = c then d else nth C c' := by
  have hl : (C.take c).length = c := by simp; omega
  unfold nth List.getD
  rcases Nat.lt_trichotomy c' c with h | h | h
  · rw [if_neg (by omega), List.append_assoc, List.getElem?_append_left (by omega), List.getElem?_take, if_pos h]
  · subst h; simp [List.getElem?_append, hl]
  · rw [if_neg (by omega), List.getElem?_append_right (by simp; omega), List.getElem?_drop]
    congr 2; simp; omega
theorem len_put {C : List D} {c : Nat} (d : D) (hc : c < C.length) : (C.take c ++ [d] ++ C.drop (c + 1)).length = C.length := by simp; omega

def zeroW (M : Nat) (_ : Nat) : List D := cellsF wD (List.replicate M wd0)
theorem low_zeroW (n M q : Nat) : ∀ d ∈ zeroW M q, Low n d := low_cellsF wD (low_wD n) _

section
variable {N M n a : Nat} {sl sl' cs cs' : List D} {h0 : Heap} {b ver : Nat}
/-- a nonterminal's slice is made -/
theorem le_grid (hl : LowH n h0) (ha : a < N) (hM : 0 < M)
    (hc : CWL n (125 + N + N * M) (sgT 125 N (a + 1) (a * M) false (125 + a) 40) cs cs') (hs : CWL n (125 + N + N * M) (sgT 125 N (a + 1) (a * M) false (125 + a) 40) sl sl') :
    Abs.Le (St.mk n sl (upd h0 b ⟨ver, .cells cs⟩) (((tabL 125 N M n a (a * M) none (zeroW M)).set 40 ⟨1, .cells (List.replicate M .nils)⟩).set 23 ⟨1, .cells ((refsG 125 n M N a).take a ++ [.ref 1 (n + 40) 1 0 M] ++ (refsG 125 n M N a).drop (a + 1))⟩))
      (St.mk n sl' (upd h0 b ⟨ver, .cells cs'⟩) (tabL 125 N M n (a + 1) (a * M) none (zeroW M))) := by
  have hb : a * M ≤ N * M := Nat.mul_le_mul_right _ (by omega)
  have hgl := refsG_len 125 n M N a
  refine le_tab (v := 125 + a) (u := 40) hl (by omega) (by omega) hb (by omega) (.inr ⟨by omega, ?_⟩) (by simp only [List.length_set]; exact tabL_len) (fun c h => by cases h) ⟨_, bgetD_set_eq (by simp only [List.length_set, tabL_len]; omega), by rw [len_put _ (by omega)]; exact hgl, fun r hr => ?_⟩ (fun r hr => ?_) (fun r hr => ?_) hc hs
  · simp [usedT]; omega
  · rw [nth_put _ (by omega), nth_refsG hr]
    by_cases e : r = a
    · subst e; rw [if_pos rfl, if_pos (by omega), if_pos rfl]
    · rw [if_neg e]
      by_cases e2 : r < a
      · rw [if_pos e2, if_pos (by omega), if_neg (by omega)]
      · rw [if_neg e2, if_neg (by omega)]
  · by_cases e : r = a
    · subst e
      rw [if_pos rfl, bgetD_set_ne (by omega), bgetD_set_eq (by rw [tabL_len]; omega)]
      refine ⟨_, rfl, by simp, fun i hi => ?_⟩
      rw [if_neg (by omega)]
      simp [nth, List.getD, hi]
    · rw [if_neg (by omega), bgetD_set_ne (by omega), bgetD_set_ne (by omega), tab_g (by omega) (by omega) (by omega)]
      refine ⟨_, rfl, refsR_len .., fun i hi => ?_⟩
      rw [nth_refsR hi, if_neg (show ¬ 125 + N + (r * M + i) = 125 + a by omega)]
  · rw [if_neg (by omega), bgetD_set_ne (by omega), bgetD_set_ne (by omega), tab_r (by omega) hr (by omega) hb]
    exact ⟨_, rfl, Nat.le_refl _, fun j hj => .inl ⟨rfl, low_zeroW n M r _ (by unfold nth; simp [List.getD, hj])⟩⟩

theorem zero_nth {M : Nat} : ∀ j, j < (cellsF wD (List.replicate M wd0)).length → (nth (List.replicate M [D.bool false, .int .i64 0, .nils]).flatten j = nth (cellsF wD (List.replicate M wd0)) j ∧ Low n (nth (cellsF wD (List.replicate M wd0)) j)) ∨
    (nth (List.replicate M [D.bool false, .int .i64 0, .nils]).flatten j = .nils ∧ nth (cellsF wD (List.replicate M wd0)) j = .lst []) := by
  induction M with
  | zero => intro j hj; simp [cellsF] at hj
  | succ M ih =>
    intro j hj
    have e : cellsF wD (List.replicate (M + 1) wd0) = .bool false :: .int .i64 0 :: .lst [] :: cellsF wD (List.replicate M wd0) := rfl
    have e2 : (List.replicate (M + 1) [D.bool false, .int .i64 0, .nils]).flatten = .bool false :: .int .i64 0 :: .nils :: (List.replicate M [D.bool false, .int .i64 0, .nils]).flatten := rfl
    rw [e] at hj ⊢
    rw [e2]
    rcases j with _ | _ | _ | j
    · exact .inl ⟨rfl, .bool _⟩
    · exact .inl ⟨rfl, .int ..⟩
    · exact .inr ⟨rfl, rfl⟩
    · exact ih j (by simpa using hj)

/-- a row is made -/
theorem le_rown {i : Nat} (hl : LowH n h0) (ha : a < N) (hi : i < M)
    (hc : CWL n (125 + N + N * M) (sgT 125 N (a + 1) (a * M + i + 1) false (125 + N + (a * M + i)) 62) cs cs') (hs : CWL n (125 + N + N * M) (sgT 125 N (a + 1) (a * M + i + 1) false (125 + N + (a * M + i)) 62) sl sl') :
    Abs.Le (St.mk n sl (upd h0 b ⟨ver, .cells cs⟩) (((tabL 125 N M n (a + 1) (a * M + i) none (zeroW M)).set 62 ⟨1, .cells (List.replicate M [D.bool false, .int .i64 0, .nils]).flatten⟩).set (125 + a) ⟨1, .cells ((refsR 125 n M N (a * M + i) a).take i ++ [.ref 3 (n + 62) 1 0 M] ++ (refsR 125 n M N (a * M + i) a).drop (i + 1))⟩))
      (St.mk n sl' (upd h0 b ⟨ver, .cells cs'⟩) (tabL 125 N M n (a + 1) (a * M + (i + 1)) none (zeroW M))) := by
  have hlt := dm_lt ha hi
  have hgl := refsR_len 125 n M N (a * M + i) a
  have hzl : (cellsF wD (List.replicate M wd0)).length = (List.replicate M [D.bool false, .int .i64 0, .nils]).flatten.length := by rw [cellsF_len wD wD_cells]; simp
  refine le_tab (v := 125 + N + (a * M + i)) (u := 62) hl (by omega) (by omega) (by omega) (by omega) (.inr ⟨by omega, ?_⟩) (by simp only [List.length_set]; exact tabL_len) (fun c h => by cases h) ⟨refsG 125 n M N (a + 1), ?_, refsG_len .., fun r hr => ?_⟩ (fun r hr => ?_) (fun r hr => ?_) hc hs
  · simp [usedT]; omega
  · rw [bgetD_set_ne (by omega), bgetD_set_ne (by omega), tab_23 (by omega)]
  · rw [nth_refsG hr, if_neg (show ¬ 125 + r = 125 + N + (a * M + i) by omega)]
  · rw [if_neg (by omega)]
    by_cases e : r = a
    · subst e
      rw [bgetD_set_eq (by simp only [List.length_set, tabL_len]; omega)]
      refine ⟨_, rfl, by rw [len_put _ (by omega)]; exact hgl, fun i' hi' => ?_⟩
      rw [nth_put _ (by omega), nth_refsR hi']
      by_cases e2 : i' = i
      · subst e2; rw [if_pos rfl, if_pos (by omega), if_pos rfl]
      · rw [if_neg e2]
        by_cases e3 : i' < i
        · rw [if_pos (by omega), if_pos (by omega), if_neg (by omega)]
        · rw [if_neg (by omega), if_neg (by omega)]
    · rw [bgetD_set_ne (by omega), bgetD_set_ne (by omega), tab_g (by omega) hr (by omega)]
      refine ⟨_, rfl, refsR_len .., fun i' hi' => ?_⟩
      have hra := dm_lt (show r < a by omega) hi'
      rw [nth_refsR hi', if_pos (by omega), if_pos (by omega), if_neg (by omega)]
  · by_cases e : r = a * M + i
    · subst e
      rw [if_pos rfl, bgetD_set_ne (by omega), bgetD_set_eq (by rw [tabL_len]; omega)]
      refine ⟨_, rfl, Nat.le_of_eq hzl, fun j hj => zero_nth j hj⟩
    · rw [if_neg (by omega), bgetD_set_ne (by omega), bgetD_set_ne (by omega), tab_r (by omega) (by omega) (by omega) (by omega)]
      exact ⟨_, rfl, Nat.le_refl _, fun j hj => .inl ⟨rfl, low_zeroW n M r _ (by unfold nth; simp [List.getD, hj])⟩⟩
end

end Abs
end Go.Proofs.Ytokdeeagghhliaa
