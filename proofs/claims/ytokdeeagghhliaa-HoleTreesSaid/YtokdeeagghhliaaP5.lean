/- What the pattern of a tree derives. Plain. -/
import Derived.Test.YtokdeeagghhliaaP4
import Derived.Test.YtokdeeagghhliaaO24
namespace Go.Proofs.Ytokdeeagghhliaa
namespace Abs
set_option linter.unusedVariables false
set_option linter.unusedSimpArgs false
set_option maxRecDepth 20000

theorem fill_list : fillF listG [⟨false, 0⟩, ⟨true, 0⟩] = ([0, 0], 0) := by decide +kernel

theorem full_der {g : Gr} {y : Sy} {t : Tree} (h : Der g y t) : full t = size t := by
  induction h with
  | leaf n => rw [full_mk, size_mk]; rfl
  | node i ru ks h hl hk ih =>
    rw [full_mk, size_mk, if_neg (by omega)]
    congr 1
    have : ∀ l : List Tree, (∀ k ∈ l, full k = size k) → (l.map full).sum = (l.map size).sum := fun l => by
      induction l with
      | nil => intro _; rfl
      | cons k l ihl => intro hh; simp [hh k (by simp), ihl fun k hk => hh k (by simp [hk])]
    refine this ks fun k hk' => ?_
    obtain ⟨j, hj⟩ := List.mem_iff_getElem?.1 hk'
    have hjl : j < ru.right.length := by rw [← hl]; exact (List.getElem?_eq_some_iff.1 hj).1
    exact ih j ru.right[j] k (by simp [hjl]) hj

/-- the symbols of a tree of a valid grammar are valid -/
theorem der_valid {g : Gr} (hg : okGr g) {y : Sy} {t : Tree} (h : Der g y t) : okSy g.terms g.nons y → symT g t = (y, true) ∧ validT g t = true := by
  induction h with
  | leaf n =>
    intro hy
    have h1 := hy.1
    have h2 := hy.2.1 rfl
    simp only at h1 h2
    have e : symT g (.mk (-1) n []) = (⟨true, n⟩, true) := by rw [symT, if_pos rfl]; simp [h1, h2]
    refine ⟨e, ?_⟩
    rw [validT_mk, e]
    simp
  | node i ru ks h hl hk ih =>
    intro hy
    have e : symT g (.mk i 0 ks) = (⟨false, ru.left⟩, true) := by
      rw [symT, if_neg (by omega), if_neg (by omega), Int.toNat_natCast, h]; simp
    refine ⟨e, ?_⟩
    rw [validT_mk, e, Int.toNat_natCast, h]
    have hro := (hg.rules ru (List.mem_of_getElem? h)).2.2.2
    have key : ∀ (ks' : List Tree) (ss : List Sy), ks'.length = ss.length → (∀ (j : Nat) (s : Sy) (k : Tree), ss[j]? = some s → ks'[j]? = some k → symT g k = (s, true) ∧ validT g k = true) → validK g ks' ss = true := by
      intro ks'
      induction ks' with
      | nil => intro ss _ _; exact validK_nil g ss
      | cons k ks' ihk =>
        intro ss hls hh
        cases ss with
        | nil => simp at hls
        | cons s ss =>
          obtain ⟨a1, a2⟩ := hh 0 s k rfl rfl
          rw [validK_cons, a1, a2, ihk ss (by simpa using hls) fun j s k h1 h2 => hh (j + 1) s k (by simpa using h1) (by simpa using h2)]
          simp
    have := key ks ru.right hl fun j s k h1 h2 => ih j s k h1 h2 (hro s (List.mem_of_getElem? h1))
    simp [hl, this]
theorem der_below {g : Gr} (hg : okGr g) : ∀ (p : List Int) {y : Sy} {t x : Tree}, Der g y t → okSy g.terms g.nons y → belowT t p = some x → ∃ z, Der g z x ∧ okSy g.terms g.nons z
  | [], y, t, x, h, hy, hb => by
    simp only [belowT, Option.some.injEq] at hb
    subst hb; exact ⟨y, h, hy⟩
  | i :: p, y, t, x, h, hy, hb => by
    simp only [belowT, Option.bind_eq_some_iff] at hb
    obtain ⟨k, h1, h2⟩ := hb
    cases h with
    | leaf n => simp [kidT] at h1
    | node j ru ks hr hl hk =>
      simp only [kidT] at h1
      split at h1
      · cases h1
      · have hjl : i.toNat < ru.right.length := by rw [← hl]; exact (List.getElem?_eq_some_iff.1 h1).1
        exact der_below hg p (hk i.toNat ru.right[i.toNat] k (by simp [hjl]) h1) ((hg.rules ru (List.mem_of_getElem? hr)).2.2.2 _ (List.getElem_mem hjl)) h2

/-! ### the words of trees -/
theorem word_node {i : Nat} {tm : Int} {ks : List Tree} : wordL (.mk i tm ks) = (ks.map wordL).flatten := by rw [wordL_mk, if_neg (by omega)]
theorem der_word {g : Gr} (hg : okGr g) {y : Sy} {t : Tree} (h : Der g y t) : okSy g.terms g.nons y → ∀ a ∈ wordL t, 0 ≤ a ∧ a < g.terms := by
  induction h with
  | leaf n =>
    intro hy a ha
    rw [wordL_mk, if_pos rfl, List.mem_singleton] at ha
    subst ha
    exact ⟨hy.1, hy.2.1 rfl⟩
  | node i ru ks h hl hk ih =>
    intro hy a ha
    rw [word_node, List.mem_flatten] at ha
    obtain ⟨w, hw, ha⟩ := ha
    obtain ⟨k, hk', rfl⟩ := List.mem_map.1 hw
    obtain ⟨j, hj⟩ := List.mem_iff_getElem?.1 hk'
    have hjl : j < ru.right.length := by rw [← hl]; exact (List.getElem?_eq_some_iff.1 hj).1
    exact ih j ru.right[j] k (by simp [hjl]) hj ((hg.rules ru (List.mem_of_getElem? h)).2.2.2 _ (List.getElem_mem hjl)) a ha

/-- a list of kids, each with cells of its own, derives the words one after the other -/
theorem kids_seq {S : Sy → Nat → Nat → List Int → Prop} {l : List Sy} : ∀ {ks : List Tree} {ss : List Sy} {cs : List (List Sy)} {pre post : List Sy}, ks.length = ss.length → ks.length = cs.length → l = pre ++ cs.flatten ++ post →
    (∀ (j : Nat) (s : Sy) (k : Tree) (c : List Sy) (pre post : List Sy), ss[j]? = some s → ks[j]? = some k → cs[j]? = some c → l = pre ++ c ++ post → S s pre.length (pre.length + c.length) (wordL k)) →
    seqD S ss pre.length (pre.length + cs.flatten.length) ((ks.map wordL).flatten)
  | [], [], [], pre, post, _, _, _, _ => ⟨rfl, rfl⟩
  | k :: ks, s :: ss, c :: cs, pre, post, h1, h2, hl, h => by
    refine ⟨pre.length + c.length, wordL k, (ks.map wordL).flatten, rfl, ?_, ?_⟩
    · exact h 0 s k c pre (cs.flatten ++ post) rfl rfl rfl (by rw [hl, List.flatten_cons]; simp)
    · have e : l = (pre ++ c) ++ cs.flatten ++ post := by rw [hl, List.flatten_cons]; simp
      have := kids_seq (S := S) (l := l) (ks := ks) (ss := ss) (cs := cs) (pre := pre ++ c) (post := post) (by simpa using h1) (by simpa using h2) e
        (fun j s k c pre post a b d e => h (j + 1) s k c pre post (by simpa using a) (by simpa using b) (by simpa using d) e)
      rw [List.length_append] at this
      rw [List.flatten_cons, List.length_append, ← Nat.add_assoc]
      exact this
  | [], _ :: _, _, _, _, h, _, _, _ => by simp at h
  | _ :: _, [], _, _, _, h, _, _, _ => by simp at h
  | [], [], _ :: _, _, _, _, h, _, _ => by simp at h
  | _ :: _, _ :: _, [], _, _, _, h, _, _ => by simp at h

theorem der_free {g : Gr} {y : Sy} {t : Tree} (h : Der g y t) : ∀ i, derD baseF g.rules y i i (wordL t) := by
  induction h with
  | leaf n => intro i; rw [wordL_mk, if_pos rfl]; exact derD_base ⟨rfl, rfl, rfl⟩
  | node i ru ks h hl hk ih =>
    intro p
    rw [word_node]
    refine derD_rule (List.mem_of_getElem? h) ?_
    have key : ∀ (ks' : List Tree) (ss : List Sy), ks'.length = ss.length → (∀ (j : Nat) (s : Sy) (k : Tree), ss[j]? = some s → ks'[j]? = some k → ∀ i, derD baseF g.rules s i i (wordL k)) → seqD (derD baseF g.rules) ss p p ((ks'.map wordL).flatten) := by
      intro ks'
      induction ks' with
      | nil =>
        intro ss hls _
        cases ss with
        | nil => exact ⟨rfl, rfl⟩
        | cons _ _ => simp at hls
      | cons k ks' ihk =>
        intro ss hls hh
        cases ss with
        | nil => simp at hls
        | cons s ss => exact ⟨p, wordL k, _, rfl, hh 0 s k rfl rfl p, ihk ss (by simpa using hls) fun j s k h1 h2 => hh (j + 1) s k (by simpa using h1) (by simpa using h2)⟩
    exact key ks ru.right hl ih
theorem takes_self (s : Sy) : takes s s = true := by simp [takes]
theorem getD_mid (pre post : List Sy) (s : Sy) : (pre ++ [s] ++ post).getD pre.length sy0 = s := by simp [List.getD]
/-- a tree's word, as cells, derives the word -/
theorem der_cells {g : Gr} {y : Sy} {t : Tree} (h : Der g y t) : ∀ pre post : List Sy, partD' g.rules (pre ++ (wordL t).map tSy ++ post) y pre.length (pre.length + (wordL t).length) (wordL t) := by
  induction h with
  | leaf n =>
    intro pre post
    rw [wordL_mk, if_pos rfl]
    exact derD_base ⟨rfl, by simp, by rw [show [n].map tSy = [tSy n] from rfl, getD_mid]; exact takes_self _, freeD_t (x := ⟨true, n⟩) rfl⟩
  | node i ru ks h hl hk ih =>
    intro pre post
    rw [word_node]
    refine derD_rule (List.mem_of_getElem? h) ?_
    have e : ((ks.map wordL).flatten).map tSy = (ks.map fun k => (wordL k).map tSy).flatten := by rw [List.map_flatten, List.map_map]; rfl
    have el : ((ks.map wordL).flatten).length = (ks.map fun k => (wordL k).map tSy).flatten.length := by rw [← e, List.length_map]
    rw [e, el]
    refine kids_seq (l := pre ++ (ks.map fun k => (wordL k).map tSy).flatten ++ post) (post := post) hl (by simp) rfl fun j s k c pre' post' h1 h2 h3 h4 => ?_
    rw [List.getElem?_map, h2] at h3
    have h3 : (wordL k).map tSy = c := by simpa using h3
    rw [h4, ← h3, List.length_map]
    exact ih j s k h1 h2 pre' post'

/-- the leaves of a tree, with a symbol in place of the node at a path -/
def frT : List Int → Tree → Sy → List Sy
  | [], _, y => [y]
  | i :: p, .mk _ _ ks, y => ((List.range ks.length).map fun j : Nat => if (j : Int) = i then frT p (ks.getD j zeroT) y else (wordL (ks.getD j zeroT)).map tSy).flatten

theorem der_front {g : Gr} : ∀ (p : List Int) {s y : Sy} {t x : Tree}, Der g s t → belowT t p = some x → Der g y x → (∀ z, Der g z x → z = y) → ∀ pre post : List Sy, partD' g.rules (pre ++ frT p t y ++ post) s pre.length (pre.length + (frT p t y).length) (wordL t)
  | [], s, y, t, x, h, hb, hx, hu, pre, post => by
    simp only [belowT, Option.some.injEq] at hb
    subst hb
    have := hu s h
    subst this
    refine derD_base ⟨rfl, by simp [frT], ?_, der_free h 0⟩
    rw [frT, getD_mid]; exact takes_self _
  | i :: p, s, y, t, x, h, hb, hx, hu, pre, post => by
    simp only [belowT, Option.bind_eq_some_iff] at hb
    obtain ⟨k, h1, h2⟩ := hb
    cases h with
    | leaf n => simp [kidT] at h1
    | node q ru ks hr hl hk =>
      simp only [kidT] at h1
      split at h1
      · cases h1
      · rename_i hn
        rw [word_node]
        refine derD_rule (List.mem_of_getElem? hr) ?_
        rw [frT]
        refine kids_seq (l := pre ++ ((List.range ks.length).map fun j : Nat => if (j : Int) = i then frT p (ks.getD j zeroT) y else (wordL (ks.getD j zeroT)).map tSy).flatten ++ post) (post := post) hl (by simp) rfl fun j s k' c pre' post' a1 a2 a3 a4 => ?_
        have hjl : j < ks.length := (List.getElem?_eq_some_iff.1 a2).1
        have ekd : ks.getD j zeroT = k' := by simp [List.getD, a2]
        rw [List.getElem?_map, List.getElem?_range hjl, Option.map_some, ekd] at a3
        have a3 := Option.some.inj a3
        have hkk := hk j s k' a1 a2
        rw [a4, ← a3]
        by_cases e : (j : Int) = i
        · rw [if_pos e]
          have : k' = k := by
            have : i.toNat = j := by omega
            rw [this, a2] at h1; exact Option.some.inj h1
          subst this
          exact der_front p hkk h2 hx hu pre' post'
        · rw [if_neg e, List.length_map]
          exact der_cells hkk pre' post'

end Abs
end Go.Proofs.Ytokdeeagghhliaa
