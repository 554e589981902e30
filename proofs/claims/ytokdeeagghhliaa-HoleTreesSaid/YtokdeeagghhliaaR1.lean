/- What a law's arguments are, read out of the world: values without addresses that stand for them. -/
import Derived.Test.YtokdeeagghhliaaRows
import Derived.Test.YtokdeeagghhliaaA21
import Derived.ChangeArms
import Derived.Below
namespace Go.Proofs.Ytokdeeagghhliaa
namespace Abs
set_option linter.unusedVariables false
open Go.Proofs.Ytokdeeagghhliaa.Rows (uptoBulk uptoBulkAll uptoSmall)

def noCtx : Ctx := fun _ => hole

theorem occ_noCtx (c : Nat) : ¬ Occ noCtx c := by
  rintro ⟨b, base, h⟩; cases h

/-- cells that stand for a value's cells -/
def RepA (W : World) (cs : List Value) (d : D) : Prop :=
  cs.length = d.cells.length ∧ ∀ (j : Nat) (e : D) (v : Value), d.cells[j]? = some e → cs[j]? = some v → Rep W noCtx e v

theorem RepA.one {W : World} {v : Value} {d : D} (hd : d.cells = [d]) (h : Rep W noCtx d v) : RepA W [v] d :=
  ⟨by simp [hd], fun j e u he hu => by
    rw [hd] at he
    cases j with
    | zero => simp at he hu; subst he; subst hu; exact h
    | succ j => simp at he⟩

section
variable {H : Type} (enc : TypeId × Value → H) (P : Program) (W : World)

/-- what is read at type t, with so much fuel, is an x: its cells stand for f x, and Q holds -/
def Opens {X : Type} (n : Nat) (t : TypeId) (f : X → D) (Q : X → DataW H → Prop) : Prop :=
  ∀ cs d p, DataW.trod enc P W 0 (fun _ => true) true n t cs = some (d, p) → ∃ x, RepA W cs (f x) ∧ Q x d

variable {enc P W}

theorem Opens.zero {X : Type} {t : TypeId} {f : X → D} {Q : X → DataW H → Prop} : Opens enc P W 0 t f Q := by
  intro cs d p h
  simp [DataW.trod] at h

theorem Opens.mono {X : Type} {n : Nat} {t : TypeId} {f : X → D} {Q Q' : X → DataW H → Prop} (h : Opens enc P W n t f Q) (hq : ∀ x d, Q x d → Q' x d) : Opens enc P W n t f Q' :=
  fun cs d p hd => let ⟨x, h1, h2⟩ := h cs d p hd; ⟨x, h1, hq x d h2⟩

theorem opens_int {n : Nat} {t : TypeId} {k : IntKind} (ht : P.underlying t = some (.int k)) : Opens enc P W n t (D.int k) fun i d => d = .lit (.int k i) ∧ (Lit.int k i).wf = true := by
  intro cs d p h
  obtain ⟨i, rfl, hx, hw⟩ := DataW.trod_int ht h
  simp only [Prod.mk.injEq] at hx
  exact ⟨i, .one rfl (.int k i), hx.1, hw⟩

theorem opens_bool {n : Nat} {t : TypeId} (ht : P.underlying t = some .bool) : Opens enc P W n t D.bool fun i d => d = .lit (.bool i) := by
  intro cs d p h
  obtain ⟨i, rfl, hx⟩ := DataW.trod_bool ht h
  simp only [Prod.mk.injEq] at hx
  exact ⟨i, .one rfl (.bool i), hx.1⟩

theorem choose_list {X : Type} {R : Nat → X → Prop} : ∀ (n : Nat), (∀ i, i < n → ∃ x, R i x) → ∃ l : List X, l.length = n ∧ ∀ (i : Nat) (x : X), l[i]? = some x → R i x
  | 0, _ => ⟨[], rfl, fun i x h => by simp at h⟩
  | n + 1, h => by
    obtain ⟨l, hl, hr⟩ := choose_list n fun i hi => h i (Nat.lt_succ_of_lt hi)
    obtain ⟨x, hx⟩ := h n (Nat.lt_succ_self n)
    refine ⟨l ++ [x], by simp [hl], fun i y hy => ?_⟩
    by_cases hi : i < l.length
    · rw [List.getElem?_append_left hi] at hy; exact hr i y hy
    · rw [List.getElem?_append_right (Nat.le_of_not_lt hi)] at hy
      by_cases e : i - l.length = 0
      · rw [e] at hy; simp at hy; subst hy
        have : i = n := by omega
        rw [this]; exact hx
      · obtain ⟨k, hk⟩ := Nat.exists_eq_succ_of_ne_zero e
        rw [hk] at hy; simp at hy

inductive All2 {X Y : Type} (Q : X → Y → Prop) : List X → List Y → Prop
  | nil : All2 Q [] []
  | cons {x : X} {y : Y} {l : List X} {m : List Y} (h : Q x y) (t : All2 Q l m) : All2 Q (x :: l) (y :: m)

theorem all2_of {X Y : Type} {Q : X → Y → Prop} : ∀ (l : List X) (m : List Y), l.length = m.length → (∀ (i : Nat) (x : X) (y : Y), l[i]? = some x → m[i]? = some y → Q x y) → All2 Q l m
  | [], [], _, _ => .nil
  | [], _ :: _, h, _ => by simp at h
  | _ :: _, [], h, _ => by simp at h
  | x :: l, y :: m, h, hq => .cons (hq 0 x y rfl rfl) (all2_of l m (by simpa using h) fun i a b h1 h2 => hq (i + 1) a b (by simpa using h1) (by simpa using h2))

theorem cell_lt {a : Addr} {v : Value} (h : W.cell? a = some v) : a.block < W.heap.size ∧ a.spot = none := by
  unfold World.cell? at h
  split at h
  · rename_i c e fr hc
    refine ⟨(Array.getElem?_eq_some_iff.1 hc).1, ?_⟩
    cases hs : a.spot with
    | none => rfl
    | some _ => simp [hs] at h
  · cases h

theorem opens_slice {X : Type} {n : Nat} {t e : TypeId} {f : X → D} {Q : X → DataW H → Prop} {sz : Nat} (ht : P.underlying t = some (.slice e)) (hsz : P.cellsOf e = sz) (hpos : 0 < sz) (hf : ∀ x, (f x).cells.length = sz)
    (ho : Opens enc P W n e f Q) : Opens enc P W (n + 1) t (fun l : List X => .lst (l.map f)) fun l d => (d = .nil ∧ l = []) ∨ ∃ es rs, d = .slice es rs ∧ All2 Q l es := by
  intro cs d p h
  rcases DataW.trod_slice ht h with ⟨rfl, hx⟩ | ⟨a, len, cap, elems, rest, m, hm, rfl, hx, _, hle, hmax, hlen, hel, _, _⟩
  · simp only [Prod.mk.injEq] at hx
    exact ⟨[], .one rfl (.lst0 none 0), .inl ⟨hx.1, rfl⟩⟩
  · simp only [Prod.mk.injEq] at hx
    obtain rfl : n = m := by omega
    rw [hsz] at hel
    have key : ∀ i, i < len → ∃ x : X, ∃ cs', W.cells? 0 (a.add (i * sz)) sz = some cs' ∧ RepA W cs' (f x) ∧ ∀ y, elems[i]? = some y → Q x y.1 := by
      intro i hi
      have hk := hel i hi
      rw [List.getElem?_eq_getElem (by omega)] at hk
      obtain ⟨cs', h1, h2⟩ := Option.bind_eq_some_iff.1 hk
      obtain ⟨x, h3, h4⟩ := ho cs' _ _ h2
      refine ⟨x, cs', h1, h3, fun y hy => ?_⟩
      rw [List.getElem?_eq_getElem (by omega)] at hy
      simp at hy; subst hy; exact h4
    obtain ⟨l, hl, hr⟩ := choose_list len key
    refine ⟨l, ?_, .inr ⟨_, _, hx.1, ?_⟩⟩
    · refine .one rfl ?_
      by_cases h0 : len = 0
      · subst h0
        have : l = [] := List.eq_nil_of_length_eq_zero hl
        subst this
        exact .lst0 (some a) cap
      · have hcell0 : ∃ v, W.cell? a = some v := by
          obtain ⟨x, hx⟩ : ∃ x, l[0]? = some x := ⟨l[0]'(by omega), by simp⟩
          obtain ⟨cs', h1, h2, _⟩ := hr 0 x hx
          obtain ⟨_, h3, h4⟩ := World.cells?_some h1
          have := h4 0 hpos
          rw [Nat.zero_mul] at this
          have ha : (a.add 0).add 0 = a := by simp [Addr.add]
          rw [ha, List.getElem?_eq_getElem (by omega)] at this
          exact ⟨_, this⟩
        obtain ⟨v0, hv0⟩ := hcell0
        obtain ⟨hblk, hspot⟩ := cell_lt hv0
        have hcells : ∀ (i : Nat) (d : D), (l.map f)[i]? = some d → ∀ (j : Nat) (e : D), d.cells[j]? = some e → ∃ v, W.cell? (a.add (i * sz + j)) = some v ∧ Rep W noCtx e v := by
          intro i d hd j e he
          simp only [List.getElem?_map, Option.map_eq_some_iff] at hd
          obtain ⟨x, hx, rfl⟩ := hd
          obtain ⟨cs', h1, h2, _⟩ := hr i x hx
          obtain ⟨_, h3, h4⟩ := World.cells?_some h1
          have hj : j < sz := by rw [← hf x]; exact (List.getElem?_eq_some_iff.1 he).1
          have hc := h4 j hj
          rw [Addr.add_add a, List.getElem?_eq_getElem (by omega)] at hc
          exact ⟨_, hc, h2.2 j e _ he (List.getElem?_eq_getElem (by omega))⟩
        have := Rep.lst (w := W) (M := noCtx) (l.map f) a cap sz (fun i j => (W.cell? (a.add (i * sz + j))).getD .nilIface) (by simp [hl, hle]) hspot hblk (occ_noCtx _) (fun d hd => by
            obtain ⟨x, _, rfl⟩ := List.mem_map.1 hd; exact hf x)
          (fun i d hd j e he => by obtain ⟨v, h1, _⟩ := hcells i d hd j e he; simp [h1])
          (fun i d hd j e he => by obtain ⟨v, h1, h2⟩ := hcells i d hd j e he; simp [h1, h2])
        simpa [hl] using this
    · refine all2_of l _ (by simp [hl, hlen]) fun i x y hx hy => ?_
      simp only [List.getElem?_map, Option.map_eq_some_iff] at hy
      obtain ⟨z, hz, rfl⟩ := hy
      obtain ⟨_, _, _, h3⟩ := hr i x hx
      exact h3 z hz

theorem uptoBulk_slice {es rs : List (DataW H)} : uptoBulk (.slice es rs) = uptoBulkAll es + uptoBulkAll rs + 1 := by rw [uptoBulk]
theorem uptoBulk_agg {es : List (DataW H)} : uptoBulk (.agg es) = uptoBulkAll es + 1 := by rw [uptoBulk]
theorem uptoBulk_nil : uptoBulk (H := H) .nil = 1 := by rw [uptoBulk]
theorem uptoBulk_int {k : IntKind} {i : Int} : uptoBulk (H := H) (.lit (.int k i)) = 1 := by rw [uptoBulk]; intro b hb; cases hb
theorem uptoBulkAll_nil : uptoBulkAll (H := H) [] = 0 := by rw [uptoBulkAll]
theorem uptoBulkAll_cons {d : DataW H} {r : List (DataW H)} : uptoBulkAll (d :: r) = uptoBulk d + uptoBulkAll r := by rw [uptoBulkAll]

theorem All2.sum {X : Type} {g : X → Nat} {l : List X} {m : List (DataW H)} (h : All2 (fun x d => g x ≤ uptoBulk d) l m) : (l.map g).sum ≤ uptoBulkAll m := by
  induction h with
  | nil => simp [uptoBulkAll_nil]
  | cons h _ ih => simp only [List.map_cons, List.sum_cons, uptoBulkAll_cons]; omega

theorem All2.imp {X Y : Type} {Q Q' : X → Y → Prop} (hq : ∀ x y, Q x y → Q' x y) {l : List X} {m : List Y} (h : All2 Q l m) : All2 Q' l m := by
  induction h with
  | nil => exact .nil
  | cons h _ ih => exact .cons (hq _ _ h) ih
theorem All2.left {X Y : Type} {Q : X → Y → Prop} {R : X → Prop} (hq : ∀ x y, Q x y → R x) {l : List X} {m : List Y} (h : All2 Q l m) : ∀ x ∈ l, R x := by
  induction h with
  | nil => intro x hx; simp at hx
  | cons h _ ih =>
    intro x hx
    rcases List.mem_cons.1 hx with rfl | hx
    · exact hq _ _ h
    · exact ih x hx

def inI (i : Int) : Prop := -9223372036854775808 ≤ i ∧ i ≤ 9223372036854775807

theorem inI_of {i : Int} (h : (Lit.int .i64 i).wf = true) : inI i := by
  simpa [Lit.wf, inI, IntKind.min, IntKind.max, IntKind.bits, IntKind.signed] using h

theorem len2 {X : Type} {l : List X} (h : l.length = 2) : ∃ a b, l = [a, b] := by
  match l, h with
  | [a, b], _ => exact ⟨a, b, rfl⟩
theorem len3 {X : Type} {l : List X} (h : l.length = 3) : ∃ a b c, l = [a, b, c] := by
  match l, h with
  | [a, b, c], _ => exact ⟨a, b, c, rfl⟩
theorem len4 {X : Type} {l : List X} (h : l.length = 4) : ∃ a b c d, l = [a, b, c, d] := by
  match l, h with
  | [a, b, c, d], _ => exact ⟨a, b, c, d, rfl⟩

def fieldsOf (P : Program) (t : TypeId) : Option (List (TypeId × Nat)) :=
  match P.underlying t with
  | some (.struct fs) => some (fs.toList.map fun f => (f.type, f.offset))
  | _ => none

theorem trod_fields {fuel : Nat} {t : TypeId} {l : List (TypeId × Nat)} {cs : List Value} {d : DataW H} {p : List MemPlace} (hu : fieldsOf P t = some l)
    (h : DataW.trod enc P W 0 (fun _ => true) true fuel t cs = some (d, p)) : ∃ (xs : List (DataW H × List MemPlace)) (n : Nat), fuel = n + 1 ∧ d = .agg (xs.map (·.1)) ∧ cs.length = P.cellsOf t ∧ xs.length = l.length ∧
      ∀ (i : Nat) (ty : TypeId) (off : Nat), l[i]? = some (ty, off) → DataW.trod enc P W 0 (fun _ => true) true n ty ((cs.drop off).take (P.cellsOf ty)) = xs[i]? := by
  unfold fieldsOf at hu
  split at hu
  · rename_i fs hfs
    injection hu with hu
    subst hu
    obtain ⟨xs, n, hm, hx, hl, hxs, hf⟩ := DataW.trod_struct hfs h
    simp only [Prod.mk.injEq] at hx
    refine ⟨xs, n, hm, hx.1, hl, by simpa using hxs, fun i ty off hi => ?_⟩
    simp only [List.getElem?_map, Option.map_eq_some_iff] at hi
    obtain ⟨f, hfi, he⟩ := hi
    simp only [Prod.mk.injEq] at he
    obtain ⟨rfl, rfl⟩ := he
    exact hf i f (by simpa using hfi)
  · cases hu

/-- slices of whole numbers -/
theorem opens_ints {n : Nat} {t e : TypeId} (ht : P.underlying t = some (.slice e)) (he : P.underlying e = some (.int .i64)) (hc : P.cellsOf e = 1) :
    Opens enc P W n t (fun l : List Int => .lst (l.map (D.int .i64))) fun l d => l.length ≤ uptoBulk d ∧ ∀ i ∈ l, inI i := by
  cases n with
  | zero => exact .zero
  | succ n =>
    refine (opens_slice (sz := 1) ht hc (by omega) (fun _ => rfl) (opens_int he)).mono fun l d h => ?_
    rcases h with ⟨rfl, rfl⟩ | ⟨es, rs, rfl, h⟩
    · exact ⟨by simp, by simp⟩
    · refine ⟨?_, h.left fun x y hq => inI_of hq.2⟩
      have := (h.imp (Q' := fun x d => 1 ≤ uptoBulk d) fun x y hq => by rw [hq.1, uptoBulk_int]; exact Nat.le_refl _).sum (g := fun _ => 1)
      have e : (l.map fun _ => 1).sum = l.length := by clear this h; induction l <;> simp_all; omega
      rw [uptoBulk_slice]; omega

/-- an argument of one cell, read -/
theorem Opens.arg {X : Type} {t : TypeId} {f : X → D} {Q : X → DataW H → Prop} (ho : ∀ n, Opens enc P W n t f Q) {v : Value} {d : DataW H} {p : List MemPlace}
    (h : DataW.Trod enc P W 0 (fun _ => true) true t v d p) (h1 : v.cells = #[v]) (hf : ∀ x, (f x).cells = [f x]) : ∃ x, Rep W noCtx (f x) v ∧ Q x d := by
  obtain ⟨fuel, h⟩ := h
  obtain ⟨x, hx, hq⟩ := ho fuel _ _ _ h
  refine ⟨x, ?_, hq⟩
  rw [h1] at hx
  exact hx.2 0 (f x) v (by rw [hf]; rfl) rfl

theorem Opens.arg_agg {X : Type} {t : TypeId} {f : X → D} {g : X → List D} {Q : X → DataW H → Prop} (ho : ∀ n, Opens enc P W n t f Q) {cs : Array Value} {d : DataW H} {p : List MemPlace}
    (h : DataW.Trod enc P W 0 (fun _ => true) true t (.agg cs) d p) (hf : ∀ x, f x = .agg (g x)) : ∃ x, Rep W noCtx (f x) (.agg cs) ∧ Q x d := by
  obtain ⟨fuel, h⟩ := h
  obtain ⟨x, hx, hq⟩ := ho fuel _ _ _ h
  refine ⟨x, ?_, hq⟩
  rw [hf] at hx ⊢
  obtain ⟨h1, h2⟩ := hx
  exact .agg _ _ (by simpa [Value.cells, D.cells] using h1) fun i c v hc hv => h2 i c v hc (by simpa [Value.cells] using hv)

theorem okWide_struct {r : Reach} {b0 : Nat} {t : TypeId} {l : List (TypeId × Nat)} {v : Value} (hu : fieldsOf P t = some l) (h : Value.okWide P W r b0 t v) : ∃ cs, v = .agg cs := by
  unfold fieldsOf at hu
  split at hu
  case h_2 => cases hu
  rename_i fs hfs
  unfold Value.okWide at h
  rw [hfs] at h
  obtain ⟨cs, rfl, _⟩ := h
  exact ⟨cs, rfl⟩

end

/-- a pure function in a world of its caller's -/
theorem Pure.law {P : Program} {f : FuncId} {ds : List D} {b : Bool} (hp : Pure P f ds (.bool b)) {W : World} {vs : Array Value} (hl : vs.size = ds.length)
    (hr : ∀ (i : Nat) (d : D) (v : Value), ds[i]? = some d → vs[i]? = some v → Rep W noCtx d v) : Calls P f vs W fun e W' => e = .returned (.bool b) ∧ RowKit.Below W.heap.size W W' := by
  obtain ⟨h1, h2⟩ := hp 0 fun _ => blk0
  have hm : mrg 0 (fun _ => blk0) [] = fun _ => blk0 := by
    funext b; simp [mrg]
  have hsim : Sim W noCtx (mrg 0 (fun _ => blk0) []) := by
    rw [hm]
    exact ⟨fun b => rfl, fun b => rfl, fun b b' c base base' h _ => (by cases h), fun b => rfl⟩
  refine (h2 W noCtx vs hsim ⟨hl, hr⟩).mono ?_
  rintro e w' ⟨v, d, h', x, M', rfl, ⟨hh, hx, hd⟩, hk, hS, hrep, hg⟩
  subst hd
  cases hrep
  exact ⟨rfl, hg.same.os, hg.same.tape, hg.same.output, hg.size, fun c hc => hg.imm c hc fun ⟨b, base, h, _⟩ => by cases h⟩

end Abs
end Go.Proofs.Ytokdeeagghhliaa
