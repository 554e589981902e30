/- The abstract values of the proofs: Go's values without addresses, and how they stand for the model's values in a world. The state of a Go function's abstract run, what a call does to it, and the rules for the model's code. The operations of the abstract run, out of the model's operations, and what each does to an abstract state. What the operations' abstract run says holds of the model's run: the tools. What the operations' abstract run says holds of the model's run: operation by operation. What the operations' abstract run says holds of the model's run: numbers, bools, fields, indexes, stores. What the operations' abstract run says holds of the model's run: comparisons, slices, lengths. What the operations' abstract run says holds of the model's run: structs compared, slices cut and made. What the operations' abstract run says holds of the model's run: slices cut, made, grown; their lengths. -/
import Derived.WalkKit
import Derived.Laws.MakeOwn
import Derived.Deep.LoopGhost
namespace Go.Proofs.Ytokdeeagghhliaa
namespace Abs

inductive D where
  | top
  | abool
  | bool (b : Bool)
  | int (k : IntKind) (n : Int)
  | str (s : ByteArray)
  | agg (cs : List D)
  | tup (ds : List D)
  | nils
  | emp
  | lst (l : List D)
  | ref (sz b ver off len : Nat)
  | adr (cs : List D)
  | ptr (b ver off : Nat)
  | nilp
  | fn (f : FuncId) (caps : List D)
  | nilfn
  | map (b ver : Nat)
  | nilmap
  | iface (t : TypeId) (d : D)
  | nilif
  deriving Inhabited

def D.cells : D → List D
  | .agg cs => cs
  | d => [d]

/-- one cell, of which something is known -/
def D.one : D → Bool
  | .top => false
  | .agg _ => false
  | .tup _ => false
  | _ => true

/-- where a block of the abstract heap lies -/
inductive Loc where
  | nil (a : Option Addr)
  | mem (blk base : Nat)

structure Ent where
  ver : Nat
  loc : Option Loc
  opq : Bool := false

abbrev Ctx := Nat → Ent
def hole : Ent := ⟨0, none, false⟩
/-- a block of the world that an abstract block stands for; one that may be written -/
def Occ (M : Ctx) (c : Nat) : Prop := ∃ b base, (M b).loc = some (.mem c base)
def Live (M : Ctx) (c : Nat) : Prop := ∃ b base, (M b).loc = some (.mem c base) ∧ (M b).opq = false
theorem Live.occ {M : Ctx} {c : Nat} (h : Live M c) : Occ M c := let ⟨b, base, h, _⟩ := h; ⟨b, base, h⟩

def RefOk (w : World) (loc : Option Loc) (sz off len : Nat) (v : Value) : Prop :=
  match loc with
  | none => True
  | some (.nil a) => off = 0 ∧ len = 0 ∧ v = .slice a 0 0
  | some (.mem c base) => (len = 0 ∧ ∃ a, v = .slice a 0 0) ∨ ∃ cap, v = .slice (some ⟨c, base + off, none⟩) len cap ∧ len ≤ cap ∧
      ∀ C e fr, w.heap[c]? = some (.cells C e fr) → base + off + cap * sz ≤ C.size

def PtrOk (loc : Option Loc) (off : Nat) (v : Value) : Prop :=
  match loc with
  | some (.mem c base) => v = .pointer (some ⟨c, base + off, none⟩)
  | _ => True

def MapOk (loc : Option Loc) (v : Value) : Prop :=
  match loc with
  | some (.mem c _) => v = .map (some c)
  | _ => True

inductive Rep (w : World) (M : Ctx) : D → Value → Prop
  | top (v : Value) : Rep w M .top v
  | abool (b : Bool) : Rep w M .abool (.bool b)
  | bool (b : Bool) : Rep w M (.bool b) (.bool b)
  | int (k : IntKind) (n : Int) : Rep w M (.int k n) (.int k n)
  | str (s : ByteArray) : Rep w M (.str s) (.string s)
  | agg (cs : List D) (vs : Array Value) (hl : vs.size = cs.length) (h : ∀ (i : Nat) (c : D) (v : Value), cs[i]? = some c → vs[i]? = some v → Rep w M c v) : Rep w M (.agg cs) (.agg vs)
  | tup (cs : List D) (vs : Array Value) (hl : vs.size = cs.length) (h : ∀ (i : Nat) (c : D) (v : Value), cs[i]? = some c → vs[i]? = some v → Rep w M c v) : Rep w M (.tup cs) (.tuple vs)
  | nils : Rep w M .nils (.slice none 0 0)
  | emp (a : Option Addr) : Rep w M .emp (.slice a 0 0)
  | lst0 (a : Option Addr) (c : Nat) : Rep w M (.lst []) (.slice a 0 c)
  | lst (l : List D) (ad : Addr) (c sz : Nat) (u : Nat → Nat → Value) (hc : l.length ≤ c) (hs : ad.spot = none) (hb : ad.block < w.heap.size) (hlive : ¬ Occ M ad.block)
      (hsz : ∀ d ∈ l, d.cells.length = sz)
      (hcell : ∀ (i : Nat) (d : D), l[i]? = some d → ∀ (j : Nat) (e : D), d.cells[j]? = some e → w.cell? (ad.add (i * sz + j)) = some (u i j))
      (hr : ∀ (i : Nat) (d : D), l[i]? = some d → ∀ (j : Nat) (e : D), d.cells[j]? = some e → Rep w M e (u i j)) : Rep w M (.lst l) (.slice (some ad) l.length c)
  | ref (sz b ver off len : Nat) (v : Value) (hv : ver ≤ (M b).ver) (h : (M b).ver = ver → RefOk w (M b).loc sz off len v) (h1 : ∃ a n c, v = .slice a n c) : Rep w M (.ref sz b ver off len) v
  | adr (cs : List D) (ad : Addr) (u : Nat → Value) (hs : ad.spot = none) (hb : ad.block < w.heap.size) (hlive : ¬ Occ M ad.block)
      (hcell : ∀ (j : Nat) (e : D), cs[j]? = some e → w.cell? (ad.add j) = some (u j)) (hr : ∀ (j : Nat) (e : D), cs[j]? = some e → Rep w M e (u j)) : Rep w M (.adr cs) (.pointer (some ad))
  | ptr (b ver off : Nat) (v : Value) (hv : ver ≤ (M b).ver) (h : (M b).ver = ver → PtrOk (M b).loc off v) (h1 : ∃ a, v = .pointer a) : Rep w M (.ptr b ver off) v
  | nilp : Rep w M .nilp (.pointer none)
  | fn (f : FuncId) (cs : List D) (vs : Array Value) (hl : vs.size = cs.length) (h : ∀ (i : Nat) (c : D) (v : Value), cs[i]? = some c → vs[i]? = some v → Rep w M c v) : Rep w M (.fn f cs) (.func (.func f) #[] vs)
  | nilfn : Rep w M .nilfn .nilFunc
  | map (b ver : Nat) (v : Value) (hv : ver ≤ (M b).ver) (h : (M b).ver = ver → MapOk (M b).loc v) (h1 : ∃ a, v = .map a) : Rep w M (.map b ver) v
  | nilmap : Rep w M .nilmap (.map none)
  | iface (t : TypeId) (d : D) (v : Value) (h : Rep w M d v) : Rep w M (.iface t d) (.iface t v)
  | nilif : Rep w M .nilif .nilIface

/-- what no operation changes -/
structure Same (w w' : World) : Prop where
  os : w'.os = w.os
  tape : w'.tape = w.tape
  output : w'.output = w.output
theorem Same.refl (w : World) : Same w w := ⟨rfl, rfl, rfl⟩
theorem Same.trans {a b c : World} (h : Same a b) (k : Same b c) : Same a c := ⟨k.os.trans h.os, k.tape.trans h.tape, k.output.trans h.output⟩

/-- one operation's change of world and context -/
structure Step (w : World) (M : Ctx) (w' : World) (M' : Ctx) : Prop where
  size : w.heap.size ≤ w'.heap.size
  ver : ∀ b, (M b).ver ≤ (M' b).ver
  loc : ∀ b, (M' b).ver = (M b).ver → (M' b).loc = none ∨ (M' b).loc = (M b).loc
  occ : ∀ c, c < w.heap.size → Occ M' c → Occ M c
  live : ∀ c, c < w.heap.size → Live M' c → Live M c
  imm : ∀ c, c < w.heap.size → ¬ Live M c → w'.heap[c]? = w.heap[c]?
  shape : ∀ c, c < w.heap.size → ∀ C' e' fr', w'.heap[c]? = some (.cells C' e' fr') → ∃ C e fr, w.heap[c]? = some (.cells C e fr) ∧ C.size = C'.size
  known : ∀ b c base, (M b).loc = some (.mem c base) → c < w.heap.size
  opq : ∀ b, (M b).opq = true → M' b = M b
  same : Same w w'

theorem cell_imm {w w' : World} {a : Addr} (h : w'.heap[a.block]? = w.heap[a.block]?) : w'.cell? a = w.cell? a := by simp [World.cell?, h]

theorem Addr.block_add (a : Addr) (n : Nat) : (a.add n).block = a.block := by unfold Addr.add; split <;> rfl

theorem Rep.step {w w' : World} {M M' : Ctx} (hs : Step w M w' M') {d : D} {v : Value} (h : Rep w M d v) : Rep w' M' d v := by
  induction h with
  | top v => exact .top v
  | abool b => exact .abool b
  | bool b => exact .bool b
  | int k n => exact .int k n
  | str s => exact .str s
  | agg cs vs hl _ ih => exact .agg cs vs hl ih
  | tup cs vs hl _ ih => exact .tup cs vs hl ih
  | nils => exact .nils
  | emp a => exact .emp a
  | lst0 a c => exact .lst0 a c
  | lst l ad c sz u hc hsp hb hlive hsz hcell _ ih =>
    refine .lst l ad c sz u hc hsp (Nat.lt_of_lt_of_le hb hs.size) (fun hl => hlive (hs.occ _ hb hl)) hsz (fun i d hd j e he => ?_) ih
    have hi : w'.cell? (ad.add (i * sz + j)) = w.cell? (ad.add (i * sz + j)) := cell_imm (by rw [Addr.block_add]; exact hs.imm _ hb (fun hl => hlive hl.occ))
    exact hi.trans (hcell i d hd j e he)
  | ref sz b ver off len v hv h h1 =>
    refine .ref sz b ver off len v (Nat.le_trans hv (hs.ver b)) (fun e => ?_) h1
    have hm : (M b).ver = ver := Nat.le_antisymm (e ▸ hs.ver b) hv
    have h' := h hm
    rcases hs.loc b (e.trans hm.symm) with hn | hn
    · rw [hn]; trivial
    · rw [hn]
      cases hl : (M b).loc with
      | none => trivial
      | some x =>
        rw [hl] at h'
        cases x with
        | nil a => exact h'
        | mem c base =>
          rcases h' with h' | ⟨cap, hv', hle, hsz⟩
          · exact .inl h'
          refine .inr ⟨cap, hv', hle, fun C' e' fr' hc => ?_⟩
          obtain ⟨C, e, fr, h1, h2⟩ := hs.shape c (hs.known b c base hl) C' e' fr' hc
          rw [← h2]
          exact hsz C e fr h1
  | adr cs ad u hsp hb hlive hcell _ ih =>
    refine .adr cs ad u hsp (Nat.lt_of_lt_of_le hb hs.size) (fun hl => hlive (hs.occ _ hb hl)) (fun j e he => ?_) ih
    have hi : w'.cell? (ad.add j) = w.cell? (ad.add j) := cell_imm (by rw [Addr.block_add]; exact hs.imm _ hb (fun hl => hlive hl.occ))
    exact hi.trans (hcell j e he)
  | ptr b ver off v hv h h1 =>
    refine .ptr b ver off v (Nat.le_trans hv (hs.ver b)) (fun e => ?_) h1
    have hm : (M b).ver = ver := Nat.le_antisymm (e ▸ hs.ver b) hv
    rcases hs.loc b (e.trans hm.symm) with hn | hn
    · rw [hn]; trivial
    · rw [hn]; exact h hm
  | nilp => exact .nilp
  | fn f cs vs hl _ ih => exact .fn f cs vs hl ih
  | nilfn => exact .nilfn
  | map b ver v hv h h1 =>
    refine .map b ver v (Nat.le_trans hv (hs.ver b)) (fun e => ?_) h1
    have hm : (M b).ver = ver := Nat.le_antisymm (e ▸ hs.ver b) hv
    rcases hs.loc b (e.trans hm.symm) with hn | hn
    · rw [hn]; trivial
    · rw [hn]; exact h hm
  | nilmap => exact .nilmap
  | iface t d v _ ih => exact .iface t d v ih
  | nilif => exact .nilif

/-! ### the heap -/
inductive Con where
  | none
  | veil
  | cells (cs : List D)
  | map (es : List (List Int × D))

def Con.isOpq : Con → Bool
  | .veil => true
  | _ => false

structure Blk where
  ver : Nat
  con : Con

instance : Inhabited Blk := ⟨⟨0, .none⟩⟩
abbrev Heap := Nat → Blk
def blk0 : Blk := ⟨0, .none⟩

/-- values without addresses -/
def scD1 : D → Bool
  | .bool _ | .int _ _ | .str _ => true
  | _ => false
def scD : D → Bool
  | .agg cs => cs.all scD1
  | d => scD1 d

/-- a map's keys: one whole number, or two -/
def keyR : List Int → Value → Prop
  | [a], v => v = .int .i64 a
  | [a, b], v => v = .agg #[.int .i64 a, .int .i64 b]
  | _, _ => False
def keyD : D → Option (List Int)
  | .int .i64 a => some [a]
  | .agg [.int .i64 a, .int .i64 b] => some [a, b]
  | _ => none
def mget (es : List (List Int × D)) (k : List Int) : Option D := (es.find? fun e => e.1 == k).map (·.2)
def mput : List (List Int × D) → List Int → D → List (List Int × D)
  | [], k, v => [(k, v)]
  | e :: es, k, v => if e.1 == k then (k, v) :: es else e :: mput es k v
def klen (n : Nat) (es : List (List Int × D)) : Bool := es.all (·.1.length == n)

/-- of a map's block the abstract entries are the map's own, in the order of their making -/
def ConOk (w : World) (M : Ctx) (loc : Option Loc) : Con → Prop
  | .none => loc = none
  | .veil => ∀ c base, loc = some (.mem c base) → c < w.heap.size
  | .cells cs => (∃ a, loc = some (.nil a) ∧ cs = []) ∨
      ∃ c base C e, loc = some (.mem c base) ∧ w.heap[c]? = some (.cells C e (0, 0)) ∧ base + cs.length ≤ C.size ∧
        ∀ j d, cs[j]? = some d → ∃ v, C[base + j]? = some v ∧ Rep w M d v
  | .map es => ∃ c E clock, loc = some (.mem c 0) ∧ w.heap[c]? = some (.map E clock) ∧ E.size = es.length ∧
        ∀ (i : Nat) (x : MapEntry) (e : List Int × D), E[i]? = some x → es[i]? = some e → keyR e.1 x.key ∧ Rep w M e.2 x.val

structure Sim (w : World) (M : Ctx) (H : Heap) : Prop where
  ver : ∀ b, (M b).ver = (H b).ver
  con : ∀ b, ConOk w M (M b).loc (H b).con
  inj : ∀ b b' c base base', (M b).loc = some (.mem c base) → (M b').loc = some (.mem c base') → b = b'
  opq : ∀ b, (M b).opq = (H b).con.isOpq

theorem Sim.known {w : World} {M : Ctx} {H : Heap} (h : Sim w M H) : ∀ b c base, (M b).loc = some (.mem c base) → c < w.heap.size := by
  intro b c base hl
  have hc := h.con b
  rw [hl] at hc
  cases hcon : (H b).con with
  | none => rw [hcon] at hc; cases hc
  | veil => rw [hcon] at hc; exact hc c base rfl
  | cells cs =>
    rw [hcon] at hc
    rcases hc with ⟨a, h1, _⟩ | ⟨c', base', C, e, h1, h2, _⟩
    · cases h1
    · injection h1 with h1; injection h1 with h1 h3; subst h1
      exact (Array.getElem?_eq_some_iff.1 h2).1
  | map es =>
    rw [hcon] at hc
    obtain ⟨c', E, cl, h1, h2, _⟩ := hc
    injection h1 with h1; injection h1 with h1 h3; subst h1
    exact (Array.getElem?_eq_some_iff.1 h2).1

theorem ConOk.step {w w' : World} {M M' : Ctx} (hs : Step w M w' M') {loc : Option Loc} {con : Con} (h : ConOk w M loc con)
    (hsame : ∀ c base, loc = some (.mem c base) → w'.heap[c]? = w.heap[c]?) : ConOk w' M' loc con := by
  cases con with
  | none => exact h
  | veil => exact fun c base e => Nat.lt_of_lt_of_le (h c base e) hs.size
  | cells cs =>
    rcases h with h | ⟨c, base, C, e, h1, h2, h3, h4⟩
    · exact .inl h
    · exact .inr ⟨c, base, C, e, h1, (hsame c base h1).trans h2, h3, fun j d hd => let ⟨v, hv, hr⟩ := h4 j d hd; ⟨v, hv, hr.step hs⟩⟩
  | map es =>
    obtain ⟨c, E, cl, h1, h2, h3, h4⟩ := h
    exact ⟨c, E, cl, h1, (hsame c 0 h1).trans h2, h3, fun i x e hx he => ⟨(h4 i x e hx he).1, (h4 i x e hx he).2.step hs⟩⟩

end Abs
end Go.Proofs.Ytokdeeagghhliaa

namespace Go.Proofs.Ytokdeeagghhliaa
namespace Abs

def mrg (n : Nat) (h : Heap) (lc : List Blk) : Heap := fun b => if b < n then h b else lc.getD (b - n) blk0

theorem mrg_lt {n : Nat} {h : Heap} {lc : List Blk} {b : Nat} (hb : b < n) : mrg n h lc b = h b := by simp [mrg, hb]
theorem mrg_loc (n : Nat) (h : Heap) (lc : List Blk) (t : Nat) : mrg n h lc (n + t) = lc.getD t blk0 := by
  simp [mrg, Nat.not_lt.2 (Nat.le_add_right n t)]
theorem mrg_nil (n : Nat) (h : Heap) (lc : List Blk) : mrg (n + lc.length) (mrg n h lc) [] = mrg n h lc := by
  funext b
  unfold mrg
  by_cases h1 : b < n
  · simp [h1, Nat.lt_of_lt_of_le h1 (Nat.le_add_right _ _)]
  · by_cases h2 : b < n + lc.length
    · simp [h1, h2]
    · have : lc[b - n]? = none := by rw [List.getElem?_eq_none_iff]; omega
      simp [h1, h2, this]
theorem mrg_app (n : Nat) (h : Heap) (lc x : List Blk) : mrg (n + lc.length) (mrg n h lc) x = mrg n h (lc ++ x) := by
  funext b
  unfold mrg
  by_cases h1 : b < n
  · simp [h1, Nat.lt_of_lt_of_le h1 (Nat.le_add_right _ _)]
  · by_cases h2 : b < n + lc.length
    · have : b - n < lc.length := by omega
      simp [h1, h2, List.getElem?_append_left this]
    · have : lc.length ≤ b - n := by omega
      simp only [h1, h2, if_false, List.getD, List.getElem?_append_right this]
      congr 2
      omega

def upd (h : Heap) (b : Nat) (x : Blk) : Heap := fun b' => if b' = b then x else h b'
theorem upd_same (h : Heap) (b : Nat) (x : Blk) : upd h b x b = x := by simp [upd]
theorem upd_ne {h : Heap} {b b' : Nat} {x : Blk} (e : b' ≠ b) : upd h b x b' = h b' := by simp [upd, e]
theorem mrg_upd_loc {n : Nat} {h : Heap} {lc : List Blk} {t : Nat} (x : Blk) (ht : t < lc.length) : upd (mrg n h lc) (n + t) x = mrg n h (lc.set t x) := by
  funext b
  unfold upd mrg
  by_cases h1 : b = n + t
  · subst h1
    have : ¬ n + t < n := by omega
    simp [this, ht]
  · by_cases h2 : b < n
    · simp [h1, h2]
    · have : ¬ (t = b - n) := by omega
      simp [h1, h2, this]
theorem mrg_upd_lt {n : Nat} {h : Heap} {lc : List Blk} {b : Nat} (x : Blk) (hb : b < n) : upd (mrg n h lc) b x = mrg n (upd h b x) lc := by
  funext b'
  unfold upd mrg
  by_cases h1 : b' = b
  · subst h1; simp [hb]
  · simp [h1]

/-! ### values whose blocks are of a kind -/
inductive Bd (p : Nat → Nat → Prop) : D → Prop
  | top : Bd p .top
  | abool : Bd p .abool
  | bool (b : Bool) : Bd p (.bool b)
  | int (k : IntKind) (i : Int) : Bd p (.int k i)
  | str (s : ByteArray) : Bd p (.str s)
  | agg (cs : List D) (h : ∀ c ∈ cs, Bd p c) : Bd p (.agg cs)
  | tup (cs : List D) (h : ∀ c ∈ cs, Bd p c) : Bd p (.tup cs)
  | nils : Bd p .nils
  | emp : Bd p .emp
  | lst (l : List D) (h : ∀ c ∈ l, Bd p c) : Bd p (.lst l)
  | ref (sz b ver off len : Nat) (h : p b ver) : Bd p (.ref sz b ver off len)
  | adr (cs : List D) (h : ∀ c ∈ cs, Bd p c) : Bd p (.adr cs)
  | ptr (b ver off : Nat) (h : p b ver) : Bd p (.ptr b ver off)
  | nilp : Bd p .nilp
  | fn (f : FuncId) (cs : List D) (h : ∀ c ∈ cs, Bd p c) : Bd p (.fn f cs)
  | nilfn : Bd p .nilfn
  | map (b ver : Nat) (h : p b ver) : Bd p (.map b ver)
  | nilmap : Bd p .nilmap
  | iface (t : TypeId) (d : D) (h : Bd p d) : Bd p (.iface t d)
  | nilif : Bd p .nilif

/-- values that name no block from n on -/
abbrev Low (n : Nat) : D → Prop := Bd (fun b ver => b < n ∨ ver = 0)

theorem scD1_low {n : Nat} {d : D} (h : scD1 d = true) : Low n d := by
  cases d <;> first | exact .bool _ | exact .int .. | exact .str _ | (exfalso; cases h; done)
theorem scD_low {n : Nat} {d : D} (h : scD d = true) : Low n d := by
  cases d with
  | agg cs =>
    refine .agg _ fun c hc => scD1_low ?_
    simp only [scD, List.all_eq_true] at h
    exact h c hc
  | _ => exact scD1_low h

theorem Bd.of_cells {p : Nat → Nat → Prop} {d : D} (h : ∀ c ∈ d.cells, Bd p c) : Bd p d := by
  cases d with
  | agg cs => exact .agg cs h
  | _ => exact h _ (by simp [D.cells])

theorem Bd.cells {p : Nat → Nat → Prop} {d : D} (h : Bd p d) : ∀ c ∈ d.cells, Bd p c := by
  cases h with
  | agg cs h => exact h
  | _ => intro c hc; simp [D.cells] at hc; subst hc; constructor <;> assumption

section
variable {p : Nat → Nat → Prop}
theorem bd_agg {cs : List D} : Bd p (.agg cs) ↔ ∀ c ∈ cs, Bd p c := ⟨fun h => by cases h; assumption, .agg cs⟩
theorem bd_tup {cs : List D} : Bd p (.tup cs) ↔ ∀ c ∈ cs, Bd p c := ⟨fun h => by cases h; assumption, .tup cs⟩
theorem bd_lst {cs : List D} : Bd p (.lst cs) ↔ ∀ c ∈ cs, Bd p c := ⟨fun h => by cases h; assumption, .lst cs⟩
theorem bd_adr {cs : List D} : Bd p (.adr cs) ↔ ∀ c ∈ cs, Bd p c := ⟨fun h => by cases h; assumption, .adr cs⟩
theorem bd_fn {f : FuncId} {cs : List D} : Bd p (.fn f cs) ↔ ∀ c ∈ cs, Bd p c := ⟨fun h => by cases h; assumption, .fn f cs⟩
theorem bd_ref {sz b ver off len : Nat} : Bd p (.ref sz b ver off len) ↔ p b ver := ⟨fun h => by cases h; assumption, .ref _ _ _ _ _⟩
theorem bd_ptr {b ver off : Nat} : Bd p (.ptr b ver off) ↔ p b ver := ⟨fun h => by cases h; assumption, .ptr _ _ _⟩
theorem bd_map {b ver : Nat} : Bd p (.map b ver) ↔ p b ver := ⟨fun h => by cases h; assumption, .map _ _⟩
theorem bd_iface {t : TypeId} {d : D} : Bd p (.iface t d) ↔ Bd p d := ⟨fun h => by cases h; assumption, .iface _ _⟩
theorem Bd.mono {q : Nat → Nat → Prop} (hpq : ∀ b ver, p b ver → q b ver) {d : D} (h : Bd p d) : Bd q d := by
  induction h with
  | top => exact .top
  | abool => exact .abool
  | bool b => exact .bool b
  | int k i => exact .int k i
  | str s => exact .str s
  | agg cs _ ih => exact .agg cs ih
  | tup cs _ ih => exact .tup cs ih
  | nils => exact .nils
  | emp => exact .emp
  | lst cs _ ih => exact .lst cs ih
  | ref sz b ver off len h => exact .ref _ _ _ _ _ (hpq _ _ h)
  | adr cs _ ih => exact .adr cs ih
  | ptr b ver off h => exact .ptr _ _ _ (hpq _ _ h)
  | nilp => exact .nilp
  | fn f cs _ ih => exact .fn f cs ih
  | nilfn => exact .nilfn
  | map b ver h => exact .map _ _ (hpq _ _ h)
  | nilmap => exact .nilmap
  | iface t d _ ih => exact .iface t d ih
  | nilif => exact .nilif
end

section
variable {n : Nat}
theorem low_agg {cs : List D} : Low n (.agg cs) ↔ ∀ c ∈ cs, Low n c := bd_agg
theorem low_tup {cs : List D} : Low n (.tup cs) ↔ ∀ c ∈ cs, Low n c := bd_tup
theorem low_lst {cs : List D} : Low n (.lst cs) ↔ ∀ c ∈ cs, Low n c := bd_lst
theorem low_adr {cs : List D} : Low n (.adr cs) ↔ ∀ c ∈ cs, Low n c := bd_adr
theorem low_fn {f : FuncId} {cs : List D} : Low n (.fn f cs) ↔ ∀ c ∈ cs, Low n c := bd_fn
theorem low_ref {sz b ver off len : Nat} : Low n (.ref sz b ver off len) ↔ b < n ∨ ver = 0 := bd_ref (p := fun b ver => b < n ∨ ver = 0)
theorem low_ptr {b ver off : Nat} : Low n (.ptr b ver off) ↔ b < n ∨ ver = 0 := bd_ptr (p := fun b ver => b < n ∨ ver = 0)
theorem low_map {b ver : Nat} : Low n (.map b ver) ↔ b < n ∨ ver = 0 := bd_map (p := fun b ver => b < n ∨ ver = 0)
theorem low_iface {t : TypeId} {d : D} : Low n (.iface t d) ↔ Low n d := bd_iface
end

theorem Rep.bd {w : World} {M : Ctx} {p : Nat → Nat → Prop} (key : ∀ b ver, ver ≤ (M b).ver → p b ver) {d : D} {v : Value} (h : Rep w M d v) : Bd p d := by
  induction h with
  | top v => exact .top
  | abool b => exact .abool
  | bool b => exact .bool b
  | int k i => exact .int k i
  | str s => exact .str s
  | agg cs vs hl _ ih =>
    refine .agg cs fun c hc => ?_
    obtain ⟨i, hi, rfl⟩ := List.mem_iff_getElem.1 hc
    exact ih i _ vs[i] (by simp [hi]) (by simp [hl, hi])
  | tup cs vs hl _ ih =>
    refine .tup cs fun c hc => ?_
    obtain ⟨i, hi, rfl⟩ := List.mem_iff_getElem.1 hc
    exact ih i _ vs[i] (by simp [hi]) (by simp [hl, hi])
  | nils => exact .nils
  | emp a => exact .emp
  | lst0 a c => exact .lst [] (by simp)
  | lst l ad c sz u hc hsp hb hlive hsz hcell _ ih =>
    refine .lst l fun d hd => .of_cells fun e he => ?_
    obtain ⟨i, hi⟩ := List.mem_iff_getElem?.1 hd
    obtain ⟨j, hj⟩ := List.mem_iff_getElem?.1 he
    exact ih i _ hi j _ hj
  | ref sz b ver off len v hv h h1 => exact .ref _ _ _ _ _ (key b ver hv)
  | adr cs ad u hsp hb hlive hcell _ ih =>
    refine .adr cs fun e he => ?_
    obtain ⟨j, hj, rfl⟩ := List.mem_iff_getElem.1 he
    exact ih j _ (by simp [hj])
  | ptr b ver off v hv h h1 => exact .ptr _ _ _ (key b ver hv)
  | nilp => exact .nilp
  | fn f cs vs hl _ ih =>
    refine .fn f cs fun c hc => ?_
    obtain ⟨i, hi, rfl⟩ := List.mem_iff_getElem.1 hc
    exact ih i _ vs[i] (by simp [hi]) (by simp [hl, hi])
  | nilfn => exact .nilfn
  | map b ver v hv h h1 => exact .map _ _ (key b ver hv)
  | nilmap => exact .nilmap
  | iface t d v _ ih => exact .iface t d ih
  | nilif => exact .nilif

theorem Rep.low {w : World} {M : Ctx} {n : Nat} (hM : ∀ b, n ≤ b → (M b).ver = 0) {d : D} {v : Value} (h : Rep w M d v) : Low n d :=
  h.bd fun b ver hv => by
    by_cases hb : b < n
    · exact .inl hb
    · have := hM b (by omega); omega

/-- what a value says of the world, in a context that knows less of it -/
theorem Rep.relow {w : World} {M M' : Ctx} {p : Nat → Nat → Prop} (hA : ∀ b ver, p b ver → ver ≤ (M b).ver → ver ≤ (M' b).ver ∧ ((M' b).ver = ver → (M' b).loc = none ∨ ((M b).ver = ver ∧ (M' b).loc = (M b).loc)))
    (hlive : ∀ c, Occ M' c → Occ M c) {d : D} {v : Value} (h : Rep w M d v) : Bd p d → Rep w M' d v := by
  induction h with
  | top v => exact fun _ => .top v
  | abool b => exact fun _ => .abool b
  | bool b => exact fun _ => .bool b
  | int k i => exact fun _ => .int k i
  | str s => exact fun _ => .str s
  | agg cs vs hl _ ih =>
    intro hl'; rw [bd_agg] at hl'
    exact .agg cs vs hl fun i c v hc hv => ih i c v hc hv (hl' c (List.mem_of_getElem? hc))
  | tup cs vs hl _ ih =>
    intro hl'; rw [bd_tup] at hl'
    exact .tup cs vs hl fun i c v hc hv => ih i c v hc hv (hl' c (List.mem_of_getElem? hc))
  | nils => exact fun _ => .nils
  | emp a => exact fun _ => .emp a
  | lst0 a c => exact fun _ => .lst0 a c
  | lst l ad c sz u hc hsp hb hlv hsz hcell _ ih =>
    intro hl'; rw [bd_lst] at hl'
    exact .lst l ad c sz u hc hsp hb (fun h => hlv (hlive _ h)) hsz hcell fun i d hd j e he => ih i d hd j e he ((hl' d (List.mem_of_getElem? hd)).cells e (List.mem_of_getElem? he))
  | ref sz b ver off len v hv h h1 =>
    intro hl'; rw [bd_ref] at hl'
    obtain ⟨h2, h3⟩ := hA b ver hl' hv
    exact .ref _ _ _ _ _ _ h2 (fun e => by
      rcases h3 e with h4 | ⟨h4, h5⟩
      · rw [h4]; trivial
      · rw [h5]; exact h h4) h1
  | adr cs ad u hsp hb hlv hcell _ ih =>
    intro hl'; rw [bd_adr] at hl'
    exact .adr cs ad u hsp hb (fun h => hlv (hlive _ h)) hcell fun j e he => ih j e he (hl' e (List.mem_of_getElem? he))
  | ptr b ver off v hv h h1 =>
    intro hl'; rw [bd_ptr] at hl'
    obtain ⟨h2, h3⟩ := hA b ver hl' hv
    exact .ptr _ _ _ _ h2 (fun e => by
      rcases h3 e with h4 | ⟨h4, h5⟩
      · rw [h4]; trivial
      · rw [h5]; exact h h4) h1
  | nilp => exact fun _ => .nilp
  | fn f cs vs hl _ ih =>
    intro hl'; rw [bd_fn] at hl'
    exact .fn f cs vs hl fun i c v hc hv => ih i c v hc hv (hl' c (List.mem_of_getElem? hc))
  | nilfn => exact fun _ => .nilfn
  | map b ver v hv h h1 =>
    intro hl'; rw [bd_map] at hl'
    obtain ⟨h2, h3⟩ := hA b ver hl' hv
    exact .map _ _ _ h2 (fun e => by
      rcases h3 e with h4 | ⟨h4, h5⟩
      · rw [h4]; trivial
      · rw [h5]; exact h h4) h1
  | nilmap => exact fun _ => .nilmap
  | iface t d v _ ih => intro hl'; rw [bd_iface] at hl'; exact .iface t d v (ih hl')
  | nilif => exact fun _ => .nilif

/-! ### what a stretch of code does to the world, as its caller sees it -/
structure Grows (n : Nat) (w : World) (M : Ctx) (w' : World) (M' : Ctx) : Prop where
  size : w.heap.size ≤ w'.heap.size
  ver : ∀ b, b < n → (M b).ver ≤ (M' b).ver
  loc : ∀ b, b < n → (M' b).ver = (M b).ver → (M' b).loc = none ∨ (M' b).loc = (M b).loc
  occ : ∀ c, c < w.heap.size → Occ M' c → Occ M c
  live : ∀ c, c < w.heap.size → Live M' c → Live M c
  imm : ∀ c, c < w.heap.size → ¬ Live M c → w'.heap[c]? = w.heap[c]?
  shape : ∀ c, c < w.heap.size → ∀ C' e' fr', w'.heap[c]? = some (.cells C' e' fr') → ∃ C e fr, w.heap[c]? = some (.cells C e fr) ∧ C.size = C'.size
  opq : ∀ b, b < n → (M b).opq = true → M' b = M b
  same : Same w w'

theorem Grows.refl (n : Nat) (w : World) (M : Ctx) : Grows n w M w M :=
  ⟨Nat.le_refl _, fun _ _ => Nat.le_refl _, fun _ _ _ => .inr rfl, fun _ _ h => h, fun _ _ h => h, fun _ _ _ => rfl, fun _ _ C' e' fr' h => ⟨C', e', fr', h, rfl⟩, fun _ _ _ => rfl, .refl w⟩

theorem Grows.trans {n : Nat} {w w' w'' : World} {M M' M'' : Ctx} (h : Grows n w M w' M') (h' : Grows n w' M' w'' M'') : Grows n w M w'' M'' where
  size := Nat.le_trans h.size h'.size
  ver b hb := Nat.le_trans (h.ver b hb) (h'.ver b hb)
  loc b hb e := by
    have h1 := h.ver b hb
    have h2 := h'.ver b hb
    rcases h'.loc b hb (by omega) with h3 | h3
    · exact .inl h3
    · rw [h3]; exact h.loc b hb (by omega)
  occ c hc hl := h.occ c hc (h'.occ c (Nat.lt_of_lt_of_le hc h.size) hl)
  live c hc hl := h.live c hc (h'.live c (Nat.lt_of_lt_of_le hc h.size) hl)
  imm c hc hl := (h'.imm c (Nat.lt_of_lt_of_le hc h.size) (fun hh => hl (h.live c hc hh))).trans (h.imm c hc hl)
  shape c hc C' e' fr' hh := by
    obtain ⟨C1, e1, fr1, h1, h2⟩ := h'.shape c (Nat.lt_of_lt_of_le hc h.size) C' e' fr' hh
    obtain ⟨C2, e2, fr2, h3, h4⟩ := h.shape c hc C1 e1 fr1 h1
    exact ⟨C2, e2, fr2, h3, h4.trans h2⟩
  opq b hb ho := by
    have h1 := h.opq b hb ho
    rw [h'.opq b hb (by rw [h1]; exact ho), h1]
  same := h.same.trans h'.same

theorem Step.grows {w w' : World} {M M' : Ctx} (h : Step w M w' M') (n : Nat) : Grows n w M w' M' :=
  ⟨h.size, fun b _ => h.ver b, fun b _ e => h.loc b e, h.occ, h.live, h.imm, h.shape, fun b _ => h.opq b, h.same⟩

/-- what a call leaves is a step for all that its caller knows: the context knew nothing from n on -/
theorem Grows.step {n : Nat} {w w' : World} {M M' : Ctx} (h : Grows n w M w' M') (hn : ∀ b, n ≤ b → M b = hole) (hM : ∀ b, n ≤ b → (M' b).ver = 0 → (M' b).loc = none)
    (hk : ∀ b c base, (M b).loc = some (.mem c base) → c < w.heap.size) : Step w M w' M' where
  size := h.size
  ver b := by
    by_cases hb : b < n
    · exact h.ver b hb
    · rw [hn b (by omega)]; exact Nat.zero_le _
  loc b e := by
    by_cases hb : b < n
    · exact h.loc b hb e
    · rw [hn b (by omega)] at e; exact .inl (hM b (by omega) e)
  occ := h.occ
  live := h.live
  imm := h.imm
  shape := h.shape
  known := hk
  opq b ho := by
    by_cases hb : b < n
    · exact h.opq b hb ho
    · rw [hn b (by omega)] at ho; cases ho
  same := h.same

/-! ### states -/
structure St where
  n : Nat
  sl : List D
  h : Heap
  lc : List Blk

def St.hp (s : St) : Heap := mrg s.n s.h s.lc

structure SimA (s : St) (a : Act) (w : World) (M : Ctx) : Prop where
  defers : a.defers = []
  size : a.tmps.size = s.sl.length
  sl : ∀ (t : Nat) (d : D) (v : Value), s.sl[t]? = some d → a.tmps[t]? = some v → Rep w M d v
  sim : Sim w M s.hp

structure Reps (w : World) (M : Ctx) (ds : List D) (vs : Array Value) : Prop where
  size : vs.size = ds.length
  rep : ∀ (i : Nat) (d : D) (v : Value), ds[i]? = some d → vs[i]? = some v → Rep w M d v

/-- a call: whatever stands for the arguments and the heap, it returns what stands for the result -/
def goodFn (P : Program) (f : FuncId) : Bool :=
  match P.funcs[f]? with
  | some fn => fn.body.isSome && !(fn.name == "runtime.NumGoroutine")
  | none => false

def ACalls (P : Program) (f : FuncId) (ds : List D) (n : Nat) (h : Heap) (R : D → Heap → List Blk → Prop) : Prop :=
  goodFn P f = true ∧ ∀ (w : World) (M : Ctx) (vs : Array Value), Sim w M (mrg n h []) → Reps w M ds vs →
    Calls P f vs w fun e w' => ∃ v d h' x M', e = .returned v ∧ R d h' x ∧ (∀ k ∈ x, 1 ≤ k.ver) ∧ Sim w' M' (mrg n h' x) ∧ Rep w' M' d v ∧ Grows n w M w' M'

theorem ACalls.mono {P : Program} {f : FuncId} {ds : List D} {n : Nat} {h : Heap} {R R' : D → Heap → List Blk → Prop} (hc : ACalls P f ds n h R)
    (hr : ∀ d h' x, R d h' x → R' d h' x) : ACalls P f ds n h R' :=
  ⟨hc.1, fun w M vs hs hv => (hc.2 w M vs hs hv).mono fun _ _ ⟨v, d, h', x, M', he, hR, hk, hS, hrep, hg⟩ => ⟨v, d, h', x, M', he, hr d h' x hR, hk, hS, hrep, hg⟩⟩

/-- code, from an abstract state -/
def Awp (P : Program) (c : Code) (Q : Exit → St → Prop) (s : St) : Prop :=
  ∀ (a : Act) (w : World) (M : Ctx), SimA s a w M → c.wp P (fun e a' w' => ∃ s' M', s'.n = s.n ∧ Q e s' ∧ SimA s' a' w' M' ∧ Grows s.n w M w' M') a w

section rules
variable {P : Program} {Q Q' : Exit → St → Prop} {s : St}

theorem awp_mono {c : Code} (h : Awp P c Q s) (hq : ∀ e s, Q e s → Q' e s) : Awp P c Q' s :=
  fun a w M hs => wp_mono (h a w M hs) fun e _ _ ⟨s', M', hn, q, r⟩ => ⟨s', M', hn, hq e s' q, r⟩

theorem awp_skip (h : Q .normal s) : Awp P .skip Q s := fun _ _ M hs => wp_skip ⟨s, M, rfl, h, hs, .refl ..⟩
theorem awp_ret (h : Q .ret s) : Awp P .ret Q s := fun _ _ M hs => wp_ret ⟨s, M, rfl, h, hs, .refl ..⟩
theorem awp_exit {id : Nat} (h : Q (.exit id) s) : Awp P (.exit id) Q s := fun _ _ M hs => wp_exit ⟨s, M, rfl, h, hs, .refl ..⟩

def AThen (next : St → Prop) (Q : Exit → St → Prop) : Exit → St → Prop
  | .normal, s => next s
  | e, s => Q e s

theorem awp_seq {x y : Code} (h : Awp P x (AThen (Awp P y Q) Q) s) : Awp P (.seq x y) Q s := by
  intro a w M hs
  refine wp_seq (wp_mono (h a w M hs) fun e a' w' ⟨s', M', hn, q, hs', hg⟩ => ?_)
  cases e with
  | normal => exact wp_mono (q a' w' M' hs') fun e a'' w'' ⟨s'', M'', hn', q', hs'', hg'⟩ => ⟨s'', M'', hn'.trans hn, q', hs'', hg.trans (hn ▸ hg')⟩
  | exit id => exact ⟨s', M', hn, q, hs', hg⟩
  | goto l => exact ⟨s', M', hn, q, hs', hg⟩
  | ret => exact ⟨s', M', hn, q, hs', hg⟩
  | panic ch => exact ⟨s', M', hn, q, hs', hg⟩
  | outgrown => exact ⟨s', M', hn, q, hs', hg⟩

def AInBlock (id : Nat) (Q : Exit → St → Prop) : Exit → St → Prop
  | .exit id', s => if id' = id then Q .normal s else Q (.exit id') s
  | e, s => Q e s

theorem awp_block {id : Nat} {c : Code} (h : Awp P c (AInBlock id Q) s) : Awp P (.block id c) Q s := by
  intro a w M hs
  refine wp_block (wp_mono (h a w M hs) fun e a' w' ⟨s', M', hn, q, hs', hg⟩ => ?_)
  cases e with
  | exit id' =>
    simp only [Exit.inBlock, AInBlock] at q ⊢
    split
    · rename_i he; rw [if_pos he] at q; exact ⟨s', M', hn, q, hs', hg⟩
    · rename_i he; rw [if_neg he] at q; exact ⟨s', M', hn, q, hs', hg⟩
  | normal => exact ⟨s', M', hn, q, hs', hg⟩
  | goto l => exact ⟨s', M', hn, q, hs', hg⟩
  | ret => exact ⟨s', M', hn, q, hs', hg⟩
  | panic ch => exact ⟨s', M', hn, q, hs', hg⟩
  | outgrown => exact ⟨s', M', hn, q, hs', hg⟩

/-- a state that tells less -/
def Le (s s' : St) : Prop := s'.n = s.n ∧ ∀ (a : Act) (w : World) (M : Ctx), SimA s a w M → ∃ M', SimA s' a w M' ∧ Grows s.n w M w M'

theorem Le.refl (s : St) : Le s s := ⟨rfl, fun _ _ M h => ⟨M, h, .refl ..⟩⟩
theorem Le.trans {s1 s2 s3 : St} (h : Le s1 s2) (h' : Le s2 s3) : Le s1 s3 :=
  ⟨h'.1.trans h.1, fun a w M hs => let ⟨M', hs', hg⟩ := h.2 a w M hs; let ⟨M'', hs'', hg'⟩ := h'.2 a w M' hs'; ⟨M'', hs'', hg.trans (h.1 ▸ hg')⟩⟩

theorem awp_le {c : Code} {s' : St} (hl : Le s s') (h : Awp P c Q s') : Awp P c Q s := by
  intro a w M hs
  obtain ⟨M', hs', hg⟩ := hl.2 a w M hs
  exact wp_mono (h a w M' hs') fun e a' w' ⟨s'', M'', hn, q, hs'', hg'⟩ => ⟨s'', M'', hn.trans hl.1, q, hs'', hg.trans (hl.1 ▸ hg')⟩

/-- the loop: at each round's head the state is one of a family's members (or tells more) -/
theorem awp_loop {β : Type} {c : Code} (S : β → St) (I : β → Prop) (μ : β → Nat) (b0 : β) (h0 : I b0) (hs0 : Le s (S b0))
    (round : ∀ b, I b → Awp P c (AThen (fun s' => ∃ b', I b' ∧ μ b' < μ b ∧ Le s' (S b')) Q) (S b)) : Awp P (.loop c) Q s := by
  intro a w M hs
  obtain ⟨M0, hs0', hg0⟩ := hs0.2 a w M hs
  refine wp_loop_ghost (fun m a' w' => ∃ b M', μ b = m ∧ I b ∧ (S b).n = s.n ∧ SimA (S b) a' w' M' ∧ Grows s.n w M w' M') (μ b0) ⟨b0, M0, rfl, h0, hs0.1, hs0', hg0⟩ ?_
  rintro m a1 w1 ⟨b, M1, rfl, hI, hn, hsim, hg⟩
  refine wp_mono (round b hI a1 w1 M1 hsim) fun e a2 w2 ⟨s2, M2, hn2, q, hs2, hg2⟩ => ?_
  rw [hn] at hn2 hg2
  cases e with
  | normal =>
    obtain ⟨b', hI', hlt, hle⟩ := q
    obtain ⟨M3, hs3, hg3⟩ := hle.2 a2 w2 M2 hs2
    rw [hn2] at hg3
    exact ⟨μ b', hlt, b', M3, rfl, hI', hle.1.trans hn2, hs3, (hg.trans hg2).trans hg3⟩
  | exit id => exact ⟨s2, M2, hn2, q, hs2, hg.trans hg2⟩
  | goto l => exact ⟨s2, M2, hn2, q, hs2, hg.trans hg2⟩
  | ret => exact ⟨s2, M2, hn2, q, hs2, hg.trans hg2⟩
  | panic ch => exact ⟨s2, M2, hn2, q, hs2, hg.trans hg2⟩
  | outgrown => exact ⟨s2, M2, hn2, q, hs2, hg.trans hg2⟩
end rules

end Abs
end Go.Proofs.Ytokdeeagghhliaa

namespace Go.Proofs.Ytokdeeagghhliaa
namespace Abs

inductive Opd where
  | tmp (t : Nat)
  | val (d : D)

def litC : Value → D
  | .bool b => .bool b
  | .int k n => .int k n
  | .string s => .str s
  | .slice none 0 0 => .nils
  | .pointer none => .nilp
  | .map none => .nilmap
  | .nilFunc => .nilfn
  | .nilIface => .nilif
  | _ => .top

def litD : Value → D
  | .agg cs => .agg (cs.toList.map litC)
  | v => litC v

def opd : Operand → Opd
  | .tmp t => .tmp t
  | .const v => .val (litD v)
  | .global _ => .val .top
  | .func f => .val (.fn f [])

inductive AOp where
  | mov (x : Opd)
  | pick (c a b : Opd)
  | alloc (z : List D)
  | box (x : Opd)
  | build (z : List D) (parts : List (Nat × Nat × Opd))
  | buildSlice (sz : Nat) (z : List D) (len : Nat) (parts : List (Nat × Nat × Opd))
  | load (agg : Bool) (k : Nat) (a : Opd)
  | store (k : Nat) (a x : Opd)
  | bin (op : BinOp) (x y : Opd)
  | eqb (neg : Bool) (x y : Opd)
  | nileq (k : Nat) (neg : Bool) (x : Opd)
  | eqs (neg : Bool) (ks : List Nat) (x y : Opd)
  | un (op : UnOp) (x : Opd)
  | conv (k : IntKind) (x : Opd)
  | nilck (x : Opd)
  | mkfn (f : FuncId) (caps : List Opd)
  | mkslice (sz bytes : Nat) (z : List D) (len cap : Opd)
  | slice (sz : Nat) (x : Opd) (lo hi : Option Opd)
  | slicez (x : Opd)
  | slicea (n sz : Nat) (x : Opd) (lo hi : Option Opd)
  | fieldAddr (off : Nat) (x : Opd)
  | field (agg : Bool) (off k : Nat) (x : Opd)
  | idxS (sz : Nat) (x i : Opd)
  | idxA (n sz : Nat) (x i : Opd)
  | idx (agg : Bool) (n sz : Nat) (x i : Opd)
  | len (x : Opd)
  | slen (x : Opd)
  | append (sz bytes : Nat) (x y : Opd)
  | appendz (sz bytes : Nat) (z : List D) (x n : Opd)
  | capz (x : Opd)
  | minmax (mx : Bool) (xs : List Opd)
  | extract (x : Opd) (i : Nat)
  | mkmap
  | lookup (n : Nat) (z : D) (x i : Opd)
  | lookv (n : Nat) (z : D) (x i : Opd)
  | mupd (n : Nat) (m k x : Opd)
  | call (f : FuncId) (args : List Opd)
  | callv (x : Opd) (args : List Opd)
  | bad

def isAggD : TypeDesc → Bool
  | .struct _ | .array _ _ => true
  | _ => false

/-- struct types whose '==' compares all their cells, one by one, whole numbers (0), bools (1) and strings (2): the cells' kinds -/
def flatK (P : Program) : List Field → Nat → Option (List Nat)
  | [], _ => some []
  | f :: rest, off => if f.name != "_" && f.offset == off then
      match P.underlying f.type, flatK P rest (off + 1) with
      | some (.int _), some ks => some (0 :: ks)
      | some .bool, some ks => some (1 :: ks)
      | some .string, some ks => some (2 :: ks)
      | _, _ => none
    else none

def nilOf : TypeDesc → Option (Nat × Value)
  | .slice _ => some (0, .slice none 0 0)
  | .pointer _ => some (1, .pointer none)
  | .map _ _ => some (2, .map none)
  | .func _ _ _ => some (3, .nilFunc)
  | _ => none

def isNilC (k : Nat) : Operand → Bool
  | .const (.slice none 0 0) => k == 0
  | .const (.pointer none) => k == 1
  | .const (.map none) => k == 2
  | .const .nilFunc => k == 3
  | _ => false

def compBin (P : Program) (op : BinOp) (t : TypeId) (x y : Operand) : AOp :=
  match op with
  | .eql | .neq =>
    match P.underlying t with
    | some (.struct fs) => match flatK P fs.toList 0 with
      | some ks => if !P.stoodInHeld t && !P.eqGuardType P.depth t then .eqs (op == .neq) ks (opd x) (opd y) else .bad
      | none => .bad
    | some .bool => .eqb (op == .neq) (opd x) (opd y)
    | some (.int _) | some .string => .bin op (opd x) (opd y)
    | some d => match nilOf d with
      | some (k, _) => if isNilC k y then .nileq k (op == .neq) (opd x) else if isNilC k x then .nileq k (op == .neq) (opd y) else .bad
      | none => .bad
    | none => .bad
  | _ => .bin op (opd x) (opd y)

/-- map keys that are one whole number, or two -/
def intT (P : Program) (e : TypeId) : Bool := match P.underlying e, P.info? e with
  | some (.int .i64), some i => i.size == 1
  | _, _ => false
def keyK (P : Program) (k : TypeId) : Nat :=
  match P.underlying k with
  | some (.int .i64) => 1
  | some (.array 2 e) => if intT P e then 2 else 0
  | some (.struct fs) => match fs.toList with
    | [f, g] => if intT P f.type && intT P g.type && f.offset == 0 && g.offset == 1 && f.name != "_" && g.name != "_" && !P.stoodInHeld k then 2 else 0
    | _ => 0
  | _ => 0

def comp (P : Program) : Op → AOp
  | .makeMap _ none => .mkmap
  | .lookup t x ix ok => match P.underlying t with
    | some (.map k e) => match (P.info? e).bind (·.zero) with
      | some z => if keyK P k = 0 then .bad else if ok then .lookup (keyK P k) (litD z) (opd x) (opd ix) else .lookv (keyK P k) (litD z) (opd x) (opd ix)
      | none => .bad
    | _ => .bad
  | .mapUpdate t m k x => match P.underlying t with
    | some (.map kt _) => if keyK P kt = 0 then .bad else .mupd (keyK P kt) (opd m) (opd k) (opd x)
    | _ => .bad
  | .insert t m k x => match P.underlying t with
    | some (.map kt _) => if keyK P kt = 0 then .bad else .mupd (keyK P kt) (opd m) (opd k) (opd x)
    | _ => .bad
  | .move x | .assign x => .mov (opd x)
  | .pick c a b => .pick (opd c) (opd a) (opd b)
  | .alloc e => match (P.info? e).bind (·.zero) with
    | some z => .alloc (litD z).cells
    | none => .bad
  | .box _ x => .box (opd x)
  | .build t parts => match P.underlying t, (P.info? t).bind (·.zero) with
    | some (.struct fs), some (.agg z) => match parts.toList.mapM (fun p => (fs[p.1]?).bind fun f => (P.info? f.type).map fun i => (f.offset, i.size, opd p.2)) with
      | some ps => if fs.toList.all (fun f => (P.info? f.type).isSome) then .build (litD (.agg z)).cells ps else .bad
      | none => .bad
    | some (.array _ e), some (.agg z) => match P.info? e with
      | some i => .build (litD (.agg z)).cells (parts.toList.map fun p => (p.1 * i.size, i.size, opd p.2))
      | none => .bad
    | _, _ => .bad
  | .buildSlice t len parts => match P.underlying t with
    | some (.slice e) => match P.info? e with
      | some i => match i.zero with
        | some z => if z.cells.size == i.size && i.size != 0 && len * i.size ≤ 16777216 then .buildSlice i.size (litD z).cells len (parts.toList.map fun p => (p.1 * i.size, i.size, opd p.2)) else .bad
        | none => .bad
      | none => .bad
    | _ => .bad
  | .load t a => match P.info? t, P.underlying t with
    | some i, some d => if i.size == 0 then .bad else .load (isAggD d) i.size (opd a)
    | _, _ => .bad
  | .store t a x => match P.info? t with
    | some i => if i.size == 0 then .bad else .store i.size (opd a) (opd x)
    | none => .bad
  | .nilCheck x => .nilck (opd x)
  | .binOp op t x y _ => compBin P op t x y
  | .unOp op _ x => .un op (opd x)
  | .convert a b x => match P.underlying a, P.underlying b with
    | some (.int _), some (.int k) => .conv k (opd x)
    | _, _ => .bad
  | .makeFunc (.func f) first caps => if first.isEmpty then .mkfn f (caps.toList.map opd) else .bad
  | .makeSlice t l c => match P.underlying t with
    | some (.slice e) => match P.info? e with
      | some i => match i.zero with
        | some z => if z.cells.size == i.size && i.size != 0 then .mkslice i.size i.bytes (litD z).cells (opd l) (opd c) else .bad
        | none => .bad
      | none => .bad
    | _ => .bad
  | .slice t x lo hi mx => match P.underlying t with
    | some (.slice e) => match P.info? e with
      | some i => match mx with
        | none => .slice i.size (opd x) (lo.map opd) (hi.map opd)
        | some (.const (.int _ 0)) => match lo, hi with
          | none, some (.const (.int _ 0)) => .slicez (opd x)
          | _, _ => .bad
        | _ => .bad
      | none => .bad
    | some (.array n e) => match P.info? e, mx with
      | some i, none => .slicea n i.size (opd x) (lo.map opd) (hi.map opd)
      | _, _ => .bad
    | _ => .bad
  | .fieldAddr t x f => match P.underlying t with
    | some (.struct fs) => match fs[f]? with
      | some fd => match P.info? fd.type with
        | some i => if i.size == 0 then .bad else .fieldAddr fd.offset (opd x)
        | none => .bad
      | none => .bad
    | _ => .bad
  | .field t x f => match P.underlying t with
    | some (.struct fs) => match fs[f]? with
      | some fd => match P.info? fd.type, P.underlying fd.type with
        | some i, some d => .field (isAggD d) fd.offset i.size (opd x)
        | _, _ => .bad
      | none => .bad
    | _ => .bad
  | .indexAddr t x i => match P.underlying t with
    | some (.slice e) => match P.info? e with
      | some ii => .idxS ii.size (opd x) (opd i)
      | none => .bad
    | some (.array n e) => match P.info? e with
      | some ii => .idxA n ii.size (opd x) (opd i)
      | none => .bad
    | _ => .bad
  | .index t x i => match P.underlying t with
    | some (.array n e) => match P.info? e, P.underlying e with
      | some ii, some d => .idx (isAggD d) n ii.size (opd x) (opd i)
      | _, _ => .bad
    | _ => .bad
  | .extract x i => .extract (opd x) i
  | .call c => match c.callee with
    | .builtin .len => match c.args[0]?, (c.argTypes[0]?).bind P.underlying with
      | some x, some (.slice _) => .len (opd x)
      | some x, some .string => .slen (opd x)
      | _, _ => .bad
    | .builtin .append => match c.args.toList, c.argTypes.toList with
      | [x, y], [t, u] => if t == u then match P.underlying t with
        | some (.slice e) => match P.info? e with
          | some i => match i.zero with
            | some z => if z.cells.size == i.size && i.size != 0 && i.bytes != 0 then .append i.size i.bytes (opd x) (opd y) else .bad
            | none => .bad
          | none => .bad
        | _ => .bad else match P.underlying t, P.underlying u with
        | some (.slice e), some (.int _) => match P.info? e with
          | some i => match i.zero with
            | some z => if z.cells.size == i.size && i.size != 0 && i.bytes != 0 then .appendz i.size i.bytes (litD z).cells (opd x) (opd y) else .bad
            | none => .bad
          | none => .bad
        | _, _ => .bad
      | _, _ => .bad
    | .builtin .cap => match c.args.toList, (c.argTypes[0]?).bind P.underlying with
      | [x], some (.slice _) => .capz (opd x)
      | _, _ => .bad
    | .builtin .min => .minmax false (c.args.toList.map opd)
    | .builtin .max => .minmax true (c.args.toList.map opd)
    | .value (.func f) => .call f (c.args.toList.map opd)
    | .value x => .callv (opd x) (c.args.toList.map opd)
    | _ => .bad
  | _ => .bad

/-! ### what an operation does -/
def nth (l : List D) (k : Nat) : D := l.getD k .top

def St.val (s : St) : Opd → D
  | .tmp t => nth s.sl t
  | .val d => d

def St.blk (s : St) (b : Nat) : Blk := mrg s.n s.h s.lc b
/-- what an operation changes: blocks, by their numbers -/
abbrev Chg := List (Nat × Blk)
def app (H : Heap) (δ : Chg) : Heap := δ.foldl (fun H p => upd H p.1 p.2) H
def St.app1 (s : St) (p : Nat × Blk) : St := if p.1 < s.n then ⟨s.n, s.sl, upd s.h p.1 p.2, s.lc⟩ else ⟨s.n, s.sl, s.h, s.lc.set (p.1 - s.n) p.2⟩
def St.app (s : St) (δ : Chg) : St := δ.foldl St.app1 s
def St.inr (s : St) (δ : Chg) : Prop := ∀ p ∈ δ, p.1 < s.n + s.lc.length

def lver (lc : List Blk) (t : Nat) : Nat := (lc.getD t blk0).ver + 1
def St.new (s : St) (dst : Option Nat) (con : Con) (K : Nat → Nat → Chg → Prop) : Prop :=
  match dst with
  | none => False
  | some t => t < s.lc.length ∧ (s.lc.getD t blk0).con.isOpq = false ∧ K (s.n + t) (lver s.lc t) [(s.n + t, ⟨lver s.lc t, con⟩)]

/-- the cells of a block that is there -/
def St.at (s : St) (b ver : Nat) (K : List D → Prop) : Prop :=
  match s.blk b with
  | ⟨v, .cells cs⟩ => v = ver ∧ K cs
  | _ => False

/-- the entries of a map that is there -/
def St.atm (s : St) (b ver : Nat) (K : List (List Int × D) → Prop) : Prop :=
  match s.blk b with
  | ⟨v, .map es⟩ => v = ver ∧ K es
  | _ => False
def mres (z : D) (o : Option D) (K : D → Bool → Prop) : Prop := match o with
  | some d => K d true
  | none => K z false
def mlook (s : St) (n : Nat) (m z : D) (kk : Option (List Int)) (K : D → Bool → Prop) : Prop := match m, kk with
  | .map b ver, some kk => s.atm b ver fun es => kk.length = n ∧ klen n es = true ∧ mres z (mget es kk) K
  | .nilmap, some kk => kk.length = n ∧ K z false
  | _, _ => False

def D.solid : D → Bool
  | .top => false
  | .tup _ => false
  | _ => true

def splice (cs : List D) (off : Nat) (xs : List D) : List D := cs.take off ++ xs ++ cs.drop (off + xs.length)

def ld (agg : Bool) (k : Nat) (cs : List D) (off : Nat) (K : D → Prop) : Prop :=
  if agg then off + k ≤ cs.length ∧ K (.agg ((cs.drop off).take k)) else off < cs.length ∧ K (nth cs off)

def fillD (cs : List D) : List (Nat × Nat × D) → (List D → Prop) → Prop
  | [], K => K cs
  | (off, k, d) :: rest, K => d.solid = true ∧ d.cells.length = k ∧ off + k ≤ cs.length ∧ fillD (splice cs off d.cells) rest K

def bounds (lo hi : Option D) (n : Nat) (K : Nat → Nat → Prop) : Prop :=
  match lo, hi with
  | none, none => K 0 n
  | some (.int _ a), none => 0 ≤ a ∧ a ≤ n ∧ K a.toNat n
  | none, some (.int _ b) => 0 ≤ b ∧ b ≤ n ∧ K 0 b.toNat
  | some (.int _ a), some (.int _ b) => 0 ≤ a ∧ a ≤ b ∧ b ≤ n ∧ K a.toNat b.toNat
  | _, _ => False

/-- the cells that an append brings -/
def srcOf (s : St) (sz : Nat) (d : D) (K : Nat → List D → Prop) : Prop :=
  match d with
  | .nils | .emp => K 0 []
  | .lst l => (∀ x ∈ l, x.cells.length = sz) ∧ K l.length (l.flatMap D.cells)
  | .ref sz' b ver off len => sz' = sz ∧ s.at b ver fun cs => off + len * sz ≤ cs.length ∧ K len ((cs.drop off).take (len * sz))
  | _ => False

def eqAll : List Nat → List D → List D → (Bool → Prop) → Prop
  | [], [], [], K => K true
  | 0 :: ks, .int k a :: xs, .int k' b :: ys, K => k = k' ∧ eqAll ks xs ys fun c => K ((a == b) && c)
  | 1 :: ks, .bool a :: xs, .bool b :: ys, K => eqAll ks xs ys fun c => K ((a == b) && c)
  | 2 :: ks, .str a :: xs, .str b :: ys, K => eqAll ks xs ys fun c => K ((a.toList == b.toList) && c)
  | _, _, _, _ => False

def binD (op : BinOp) (x y : D) (K : D → Prop) : Prop :=
  match x, y with
  | .int k a, .int k' b => k = k' ∧
    match op with
    | .add => K (.int k (k.wrap (a + b)))
    | .sub => K (.int k (k.wrap (a - b)))
    | .mul => K (.int k (k.wrap (a * b)))
    | .quo => b ≠ 0 ∧ K (.int k (k.wrap (a.tdiv b)))
    | .rem => b ≠ 0 ∧ K (.int k (a.tmod b))
    | .eql => K (.bool (a == b))
    | .neq => K (.bool (a != b))
    | .lss => K (.bool (decide (a < b)))
    | .leq => K (.bool (decide (a ≤ b)))
    | .gtr => K (.bool (decide (a > b)))
    | .geq => K (.bool (decide (a ≥ b)))
    | _ => False
  | .str a, .str b =>
    match op with
    | .eql => K (.bool (a.toList == b.toList))
    | .neq => K (.bool (!(a.toList == b.toList)))
    | _ => False
  | _, _ => False

def minD (mx : Bool) (x y : D) : D :=
  match x, y with
  | .int k a, .int _ b => .int k (if mx then (if b > a then b else a) else (if b < a then b else a))
  | _, _ => .top

def intsD : List D → Bool
  | [] => true
  | .int .i64 _ :: r => intsD r
  | _ => false

def run (s : St) (dst : Option Nat) (K : D → Chg → Prop) : AOp → Prop
  | .mov x => K (s.val x) []
  | .pick c a b => match s.val c with
    | .bool t => K (if t then s.val a else s.val b) []
    | _ => False
  | .alloc z => s.new dst (.cells z) fun id ver δ => K (.ptr id ver 0) δ
  | .box x => (s.val x).solid = true ∧ s.new dst (.cells (s.val x).cells) fun id ver δ => K (.ptr id ver 0) δ
  | .build z parts => fillD z (parts.map fun p => (p.1, p.2.1, s.val p.2.2)) fun cs => K (.agg cs) []
  | .buildSlice sz z len parts => fillD (List.replicate len z).flatten (parts.map fun p => (p.1, p.2.1, s.val p.2.2)) fun cs =>
      s.new dst (.cells cs) fun id ver δ => K (.ref sz id ver 0 len) δ
  | .load agg k a => match s.val a with
    | .adr cs => ld agg k cs 0 fun d => K d []
    | .ptr b ver off => s.at b ver fun cs => ld agg k cs off fun d => K d []
    | _ => False
  | .store k a x => match s.val a with
    | .ptr b ver off => s.at b ver fun cs => (s.val x).cells.length = k ∧ (∀ c ∈ (s.val x).cells, c.one = true) ∧ off + k ≤ cs.length ∧
        K .top [(b, ⟨ver, .cells (splice cs off (s.val x).cells)⟩)]
    | _ => False
  | .bin op x y => binD op (s.val x) (s.val y) fun d => K d []
  | .eqb neg x y => match s.val x, s.val y with
    | .bool a, .bool b => K (.bool ((a == b) != neg)) []
    | _, _ => False
  | .nileq k neg x => match k, s.val x with
    | 0, .nils => K (.bool !neg) []
    | 1, .nilp => K (.bool !neg) []
    | 2, .nilmap => K (.bool !neg) []
    | 3, .nilfn => K (.bool !neg) []
    | 0, .emp => K .abool []
    | 0, .lst l => (l = [] → K .abool []) ∧ (l ≠ [] → K (.bool neg) [])
    | 0, .ref _ b ver _ len => s.at b ver fun _ => (len = 0 → K .abool []) ∧ (len ≠ 0 → K (.bool neg) [])
    | 1, .adr _ => K (.bool neg) []
    | 3, .fn _ _ => K (.bool neg) []
    | 1, .ptr b ver _ => s.at b ver fun cs => cs ≠ [] ∧ K (.bool neg) []
    | 2, .map b ver => s.atm b ver fun _ => K (.bool neg) []
    | _, _ => False
  | .eqs neg ks x y => match s.val x, s.val y with
    | .agg xs, .agg ys => eqAll ks xs ys fun b => K (.bool (b != neg)) []
    | _, _ => False
  | .un op x => match op, s.val x with
    | .not, .bool b => K (.bool !b) []
    | .not, .abool => K .abool []
    | .neg, .int k n => K (.int k (k.wrap (0 - n))) []
    | _, _ => False
  | .conv k x => match s.val x with
    | .int _ n => K (.int k (k.wrap n)) []
    | _ => False
  | .nilck x => match s.val x with
    | .adr cs => K (.adr cs) []
    | .fn f cs => K (.fn f cs) []
    | .ptr b ver off => s.at b ver fun cs => cs ≠ [] ∧ K (.ptr b ver off) []
    | _ => False
  | .mkfn f caps => K (.fn f (caps.map s.val)) []
  | .mkslice sz bytes z len cap => match s.val len, s.val cap with
    | .int .i64 n, .int .i64 c => 0 ≤ n ∧ n ≤ c ∧ c * bytes ≤ 140737488355328 ∧ c ≤ 9223372036854775807 ∧ s.new dst (.cells (List.replicate n.toNat z).flatten) fun id ver δ => K (.ref sz id ver 0 n.toNat) δ
    | _, _ => False
  | .slice sz x lo hi => match s.val x with
    | .lst l => (∀ d ∈ l, d.cells.length = sz) ∧ bounds (lo.map s.val) (hi.map s.val) l.length fun a b => K (.lst ((l.drop a).take (b - a))) []
    | .ref sz' b ver off len => sz' = sz ∧ s.at b ver fun _ => bounds (lo.map s.val) (hi.map s.val) len fun i j => K (.ref sz b ver (off + i * sz) (j - i)) []
    | .nils | .emp => bounds (lo.map s.val) (hi.map s.val) 0 fun _ _ => K .emp []
    | _ => False
  | .slicez x => match s.val x with
    | .lst _ | .nils | .emp => K .emp []
    | .ref _ _ _ _ _ => K .emp []
    | _ => False
  | .slicea n sz x lo hi => match s.val x with
    | .ptr b ver off => s.at b ver fun cs => off + n * sz ≤ cs.length ∧ cs ≠ [] ∧ bounds (lo.map s.val) (hi.map s.val) n fun i j => K (.ref sz b ver (off + i * sz) (j - i)) []
    | _ => False
  | .fieldAddr off x => match s.val x with
    | .adr cs => K (.adr (cs.drop off)) []
    | .ptr b ver o => s.at b ver fun cs => cs ≠ [] ∧ K (.ptr b ver (o + off)) []
    | _ => False
  | .field agg off k x => match s.val x with
    | .agg cs => ld agg k cs off fun d => K d []
    | _ => False
  | .idxS sz x i => match s.val x, s.val i with
    | .lst l, .int _ i => 0 ≤ i ∧ i < l.length ∧ (nth l i.toNat).cells.length = sz ∧ K (.adr (nth l i.toNat).cells) []
    | .ref sz' b ver off len, .int _ i => sz' = sz ∧ 0 ≤ i ∧ i < len ∧ s.at b ver fun _ => K (.ptr b ver (off + i.toNat * sz)) []
    | _, _ => False
  | .idxA n sz x i => match s.val x, s.val i with
    | .ptr b ver off, .int _ i => 0 ≤ i ∧ i < n ∧ s.at b ver fun cs => cs ≠ [] ∧ K (.ptr b ver (off + i.toNat * sz)) []
    | .adr cs, .int _ i => 0 ≤ i ∧ i < n ∧ K (.adr (cs.drop (i.toNat * sz))) []
    | _, _ => False
  | .idx agg n sz x i => match s.val x, s.val i with
    | .agg cs, .int _ i => 0 ≤ i ∧ i < n ∧ ld agg sz cs (i.toNat * sz) fun d => K d []
    | _, _ => False
  | .len x => match s.val x with
    | .nils | .emp => K (.int .i64 0) []
    | .lst l => K (.int .i64 l.length) []
    | .ref _ b ver _ len => s.at b ver fun _ => K (.int .i64 len) []
    | _ => False
  | .slen x => match s.val x with
    | .str t => K (.int .i64 t.size) []
    | _ => False
  | .append sz bytes x y => srcOf s sz (s.val y) fun m news => (∀ c ∈ news, c.one = true) ∧
    match s.val x with
    | .nils | .emp => m * bytes ≤ 140737488355328 ∧ s.new dst (.cells news) fun id ver δ => K (.ref sz id ver 0 m) δ
    | .ref sz' b ver off len => sz' = sz ∧ s.at b ver fun cs => off + len * sz ≤ cs.length ∧ (len + m) * bytes ≤ 140737488355328 ∧
        K (.ref sz b (ver + 1) 0 (len + m)) [(b, ⟨ver + 1, .cells ((cs.drop off).take (len * sz) ++ news)⟩)]
    | _ => False
  | .appendz sz bytes z x n => match s.val x, s.val n with
    | .nils, .int .i64 k | .emp, .int .i64 k => 0 < k ∧ k * bytes ≤ 140737488355328 ∧ s.new dst (.cells (List.replicate k.toNat z).flatten) fun id ver δ => K (.ref sz id ver 0 k.toNat) δ
    | _, _ => False
  | .capz x => match s.val x with
    | .nils | .emp => K (.int .i64 0) []
    | _ => False
  | .minmax mx xs => match xs.map s.val with
    | d :: ds => intsD (d :: ds) = true ∧ ds.length ≤ 8 ∧ K (ds.foldl (minD mx) d) []
    | [] => False
  | .extract x i => match s.val x with
    | .tup ds => i < ds.length ∧ K (nth ds i) []
    | _ => False
  | .mkmap => s.new dst (.map []) fun id ver δ => K (.map id ver) δ
  | .lookup n z x i => mlook s n (s.val x) z (keyD (s.val i)) fun d b => K (.tup [d, .bool b]) []
  | .lookv n z x i => mlook s n (s.val x) z (keyD (s.val i)) fun d _ => K d []
  | .mupd n m k x => match s.val m, keyD (s.val k) with
    | .map b ver, some kk => s.atm b ver fun es => kk.length = n ∧ klen n es = true ∧ K .top [(b, ⟨ver, .map (mput es kk (s.val x))⟩)]
    | _, _ => False
  | _ => False

end Abs
end Go.Proofs.Ytokdeeagghhliaa

namespace Go.Proofs.Ytokdeeagghhliaa
namespace Abs

theorem litC_rep (w : World) (M : Ctx) (v : Value) : Rep w M (litC v) v := by
  unfold litC
  split
  · exact .bool _
  · exact .int _ _
  · exact .str _
  · exact .nils
  · exact .nilp
  · exact .nilmap
  · exact .nilfn
  · exact .nilif
  · exact .top _

theorem litD_rep (w : World) (M : Ctx) (v : Value) : Rep w M (litD v) v := by
  unfold litD
  split
  · rename_i cs
    refine .agg _ _ (by simp) fun i c v hc hv => ?_
    simp only [List.getElem?_map, Array.getElem?_toList, Option.map_eq_some_iff] at hc
    obtain ⟨u, hu, rfl⟩ := hc
    rw [hu] at hv; injection hv with hv; subst hv
    exact litC_rep w M u
  · exact litC_rep w M _

theorem val_rep {s : St} {a : Act} {w : World} {M : Ctx} (hs : SimA s a w M) (x : Operand) : Rep w M (s.val (opd x)) (a.eval x) := by
  cases x with
  | tmp t =>
    simp only [opd, St.val, Act.eval, nth]
    by_cases ht : t < s.sl.length
    · have h1 : s.sl[t]? = some s.sl[t] := by simp [ht]
      have h2 : a.tmps[t]? = some (a.tmps[t]'(by rw [hs.size]; exact ht)) := by simp [hs.size, ht]
      simp only [List.getD, h1, Array.getD_eq_getD_getElem?, h2, Option.getD_some]
      exact hs.sl t _ _ h1 h2
    · simp only [List.getD, List.getElem?_eq_none (Nat.le_of_not_lt ht), Option.getD_none]
      exact .top _
  | const v => exact litD_rep w M v
  | global g => exact .top _
  | func f => exact .fn f [] #[] rfl (by simp)

theorem nth_of {l : List D} {k : Nat} {d : D} (h : l[k]? = some d) : nth l k = d := by simp [nth, List.getD, h]
theorem nth_get {l : List D} {k : Nat} (h : k < l.length) : l[k]? = some (nth l k) := by simp [nth, List.getD, h]

/-- the cells of a value that is known as a whole -/
theorem rep_solid {w : World} {M : Ctx} {d : D} {v : Value} (h : Rep w M d v) (hd : d.solid = true) :
    v.cells.size = d.cells.length ∧ ∀ (j : Nat) (c : D) (u : Value), d.cells[j]? = some c → v.cells[j]? = some u → Rep w M c u := by
  have one : ∀ {d : D} {v : Value}, d.cells = [d] → v.cells = #[v] → Rep w M d v → v.cells.size = d.cells.length ∧ ∀ (j : Nat) (c : D) (u : Value), d.cells[j]? = some c → v.cells[j]? = some u → Rep w M c u := by
    intro d v h1 h2 h
    rw [h1, h2]
    refine ⟨rfl, fun j c u hc hu => ?_⟩
    cases j with
    | zero => simp at hc hu; subst hc; subst hu; exact h
    | succ j => simp at hc
  cases h with
  | top v => simp [D.solid] at hd
  | tup cs vs hl h => simp [D.solid] at hd
  | agg cs vs hl h => exact ⟨hl, h⟩
  | ref sz b ver off len v hv h h1 =>
    obtain ⟨x, y, z, rfl⟩ := h1
    exact one rfl rfl (.ref sz b ver off len _ hv h ⟨x, y, z, rfl⟩)
  | ptr b ver off v hv h h1 =>
    obtain ⟨x, rfl⟩ := h1
    exact one rfl rfl (.ptr b ver off _ hv h ⟨x, rfl⟩)
  | map b ver v hv h h1 =>
    obtain ⟨x, rfl⟩ := h1
    exact one rfl rfl (.map b ver _ hv h ⟨x, rfl⟩)
  | abool b => exact one rfl rfl (.abool b)
  | bool b => exact one rfl rfl (.bool b)
  | int k i => exact one rfl rfl (.int k i)
  | str s => exact one rfl rfl (.str s)
  | nils => exact one rfl rfl .nils
  | emp a => exact one rfl rfl (.emp a)
  | lst0 a c => exact one rfl rfl (.lst0 a c)
  | lst l ad c sz u hc hsp hb hlive hsz hcell hr => exact one rfl rfl (.lst l ad c sz u hc hsp hb hlive hsz hcell hr)
  | adr cs ad u hsp hb hlive hcell hr => exact one rfl rfl (.adr cs ad u hsp hb hlive hcell hr)
  | nilp => exact one rfl rfl .nilp
  | fn f cs vs hl h => exact one rfl rfl (.fn f cs vs hl h)
  | nilfn => exact one rfl rfl .nilfn
  | nilmap => exact one rfl rfl .nilmap
  | iface t d v h => exact one rfl rfl (.iface t d v h)
  | nilif => exact one rfl rfl .nilif

theorem rep_one {w : World} {M : Ctx} {d : D} {v : Value} (h : Rep w M d v) (hd : d.one = true) : v.oneCell' = true := by
  cases h with
  | top v => simp [D.one] at hd
  | tup cs vs hl h => simp [D.one] at hd
  | agg cs vs hl h => simp [D.one] at hd
  | ref sz b ver off len v hv h h1 => obtain ⟨x, y, z, rfl⟩ := h1; rfl
  | ptr b ver off v hv h h1 => obtain ⟨x, rfl⟩ := h1; rfl
  | map b ver v hv h h1 => obtain ⟨x, rfl⟩ := h1; rfl
  | _ => rfl

theorem one_solid {d : D} (h : d.one = true) : d.solid = true := by cases d <;> simp_all [D.one, D.solid]

/-! ### changes of the world -/
def updM (M : Ctx) (b : Nat) (x : Ent) : Ctx := fun b' => if b' = b then x else M b'

theorem sim_new {w w' : World} {M : Ctx} {H : Heap} (hs : Sim w M H) (b : Nat) (hnv : (H b).con.isOpq = false) (C : Array Value) (e : TypeId) (hw : w'.heap = w.heap.push (.cells C e (0, 0)))
    (cs : List D) (hl : cs.length ≤ C.size) (hr : ∀ (j : Nat) (d : D), cs[j]? = some d → ∃ v, C[j]? = some v ∧ Rep w M d v) (hsame : Same w w' := by exact ⟨rfl, rfl, rfl⟩) :
    Step w M w' (updM M b ⟨(H b).ver + 1, some (.mem w.heap.size 0), false⟩) ∧ Sim w' (updM M b ⟨(H b).ver + 1, some (.mem w.heap.size 0), false⟩) (upd H b ⟨(H b).ver + 1, .cells cs⟩) := by
  have hold : ∀ c, c < w.heap.size → w'.heap[c]? = w.heap[c]? := fun c hc => by rw [hw, Array.getElem?_push_lt hc]; simp [hc]
  have hnew : w'.heap[w.heap.size]? = some (.cells C e (0, 0)) := by rw [hw]; simp
  have hstep : Step w M w' (updM M b ⟨(H b).ver + 1, some (.mem w.heap.size 0), false⟩) := by
    refine ⟨by rw [hw]; simp, fun b' => ?_, fun b' he => ?_, fun c hc hlv => ?_, fun c hc hlv => ?_, fun c hc _ => hold c hc, fun c hc C' e' fr' h => ⟨C', e', fr', (hold c hc).symm.trans h, rfl⟩, hs.known, fun b' ho => ?_, hsame⟩
    · unfold updM; split
      · rename_i h; subst h; rw [hs.ver]; exact Nat.le_succ _
      · exact Nat.le_refl _
    · unfold updM at he ⊢; split
      · rename_i h; subst h; simp [hs.ver] at he
      · exact .inr rfl
    · obtain ⟨b', base, h⟩ := hlv
      unfold updM at h; split at h
      · injection h with h; injection h with h; omega
      · exact ⟨b', base, h⟩
    · obtain ⟨b', base, h, h2⟩ := hlv
      unfold updM at h h2; split at h
      · injection h with h; injection h with h; omega
      · rename_i hne; rw [if_neg hne] at h2; exact ⟨b', base, h, h2⟩
    · unfold updM; split
      · rename_i h; subst h; rw [hs.opq, hnv] at ho; cases ho
      · rfl
  refine ⟨hstep, fun b' => ?_, fun b' => ?_, fun b1 b2 c base base' h1 h2 => ?_, fun b' => ?_⟩
  rotate_left 3
  · unfold updM upd; split
    · rfl
    · exact hs.opq b'
  · unfold updM upd; split
    · rfl
    · exact hs.ver b'
  · by_cases h : b' = b
    · subst h
      simp only [updM, upd, if_true]
      refine .inr ⟨_, 0, C, e, rfl, hnew, by omega, fun j d hd => ?_⟩
      obtain ⟨v, hv, hrep⟩ := hr j d hd
      exact ⟨v, by simpa using hv, hrep.step hstep⟩
    · simp only [updM, upd, h, if_false]
      exact (hs.con b').step hstep fun c base hlc => hold c (hs.known b' c base hlc)
  · unfold updM at h1 h2
    split at h1 <;> split at h2
    · omega
    · injection h1 with h1; injection h1 with h1; have := hs.known b2 c base' h2; omega
    · injection h2 with h2; injection h2 with h2; have := hs.known b1 c base h1; omega
    · exact hs.inj b1 b2 c base base' h1 h2

theorem sim_put {w w' : World} {M : Ctx} {H : Heap} (hs : Sim w M H) (b c base : Nat) (hnv : (H b).con.isOpq = false) (C C' : Array Value) (e : TypeId) (hloc : (M b).loc = some (.mem c base))
    (hc : w.heap[c]? = some (.cells C e (0, 0))) (hsz : w'.heap.size = w.heap.size) (hother : ∀ k, k ≠ c → w'.heap[k]? = w.heap[k]?) (hc' : w'.heap[c]? = some (.cells C' e (0, 0)))
    (hC : C'.size = C.size) (ver' base' : Nat) (cs : List D) (hver : (ver' = (H b).ver ∧ base' = base) ∨ (H b).ver < ver') (hl : base' + cs.length ≤ C.size)
    (hr : ∀ (j : Nat) (d : D), cs[j]? = some d → ∃ v, C'[base' + j]? = some v ∧ Rep w M d v) (hsame : Same w w' := by exact ⟨rfl, rfl, rfl⟩) :
    Step w M w' (updM M b ⟨ver', some (.mem c base'), false⟩) ∧ Sim w' (updM M b ⟨ver', some (.mem c base'), false⟩) (upd H b ⟨ver', .cells cs⟩) := by
  have hlive : Live M c := ⟨b, base, hloc, by rw [hs.opq]; exact hnv⟩
  have hstep : Step w M w' (updM M b ⟨ver', some (.mem c base'), false⟩) := by
    refine ⟨Nat.le_of_eq hsz.symm, fun b' => ?_, fun b' he => ?_, fun k hk hlv => ?_, fun k hk hlv => ?_, fun k hk hn => hother k (fun h => hn (h ▸ hlive)), fun k hk C1 e1 fr1 h => ?_, hs.known, fun b' ho => ?_, hsame⟩
    · unfold updM; split
      · rename_i h; subst h; rw [hs.ver]; show _ ≤ ver'; omega
      · exact Nat.le_refl _
    · unfold updM at he ⊢; split
      · rename_i h; subst h
        simp only [if_true, hs.ver] at he
        rcases hver with ⟨_, h2⟩ | h2
        · rw [h2]; exact .inr hloc.symm
        · omega
      · exact .inr rfl
    · obtain ⟨b', base1, h⟩ := hlv
      unfold updM at h; split at h
      · injection h with h; injection h with h; subst h; exact hlive.occ
      · exact ⟨b', base1, h⟩
    · obtain ⟨b', base1, h, h2⟩ := hlv
      unfold updM at h h2; split at h
      · injection h with h; injection h with h; subst h; exact hlive
      · rename_i hne; rw [if_neg hne] at h2; exact ⟨b', base1, h, h2⟩
    · by_cases hkc : k = c
      · subst hkc
        rw [hc'] at h; injection h with h; injection h with h1 h2 h3
        exact ⟨C, e, _, hc, by rw [← h1, hC]⟩
      · rw [hother k hkc] at h; exact ⟨C1, e1, fr1, h, rfl⟩
    · unfold updM; split
      · rename_i h; subst h; rw [hs.opq, hnv] at ho; cases ho
      · rfl
  refine ⟨hstep, fun b' => ?_, fun b' => ?_, fun b1 b2 k base1 base2 h1 h2 => ?_, fun b' => ?_⟩
  rotate_left 3
  · unfold updM upd; split
    · rfl
    · exact hs.opq b'
  · unfold updM upd; split
    · rfl
    · exact hs.ver b'
  · by_cases h : b' = b
    · subst h
      simp only [updM, upd, if_true]
      refine .inr ⟨c, base', C', e, rfl, hc', by rw [hC]; exact hl, fun j d hd => ?_⟩
      obtain ⟨v, hv, hrep⟩ := hr j d hd
      exact ⟨v, hv, hrep.step hstep⟩
    · simp only [updM, upd, h, if_false]
      exact (hs.con b').step hstep fun k base1 hlc => hother k (fun hk => h (by subst hk; exact hs.inj b' b k base1 base hlc hloc))
  · by_cases e1 : b1 = b <;> by_cases e2 : b2 = b
    · omega
    · simp only [updM, e1, if_true] at h1
      simp only [updM, e2, if_false] at h2
      injection h1 with h1; injection h1 with h1; subst h1
      exact absurd (hs.inj b2 b _ base2 base h2 hloc) e2
    · simp only [updM, e1, if_false] at h1
      simp only [updM, e2, if_true] at h2
      injection h2 with h2; injection h2 with h2; subst h2
      exact absurd (hs.inj b1 b _ base1 base h1 hloc) e1
    · simp only [updM, e1, if_false] at h1
      simp only [updM, e2, if_false] at h2
      exact hs.inj b1 b2 k base1 base2 h1 h2

/-- only the count of draws has moved -/
theorem step_same {w w' : World} {M : Ctx} {H : Heap} (hs : Sim w M H) (hw : w'.heap = w.heap) (hsame : Same w w' := by exact ⟨rfl, rfl, rfl⟩) : Step w M w' M ∧ Sim w' M H := by
  have hstep : Step w M w' M := ⟨by rw [hw]; exact Nat.le_refl _, fun _ => Nat.le_refl _, fun _ _ => .inr rfl, fun _ _ h => h, fun _ _ h => h, fun _ _ _ => by rw [hw], fun c _ C' e' fr' h => ⟨C', e', fr', by rw [← hw]; exact h, rfl⟩, hs.known, fun _ _ => rfl, hsame⟩
  exact ⟨hstep, hs.ver, fun b => (hs.con b).step hstep fun c base _ => by rw [hw], hs.inj, hs.opq⟩

/-- a block that is made anew but holds nothing: an empty slice -/
theorem sim_nil {w w' : World} {M : Ctx} {H : Heap} (hs : Sim w M H) (b : Nat) (hnv : (H b).con.isOpq = false) (a : Option Addr) (hw : w'.heap = w.heap) (ver' : Nat) (hv : (H b).ver < ver') (hsame : Same w w' := by exact ⟨rfl, rfl, rfl⟩) :
    Step w M w' (updM M b ⟨ver', some (.nil a), false⟩) ∧ Sim w' (updM M b ⟨ver', some (.nil a), false⟩) (upd H b ⟨ver', .cells []⟩) := by
  have hstep : Step w M w' (updM M b ⟨ver', some (.nil a), false⟩) := by
    refine ⟨by rw [hw]; exact Nat.le_refl _, fun b' => ?_, fun b' he => ?_, fun c hc hlv => ?_, fun c hc hlv => ?_, fun c hc _ => by rw [hw], fun c hc C' e' fr' h => ⟨C', e', fr', by rw [← hw]; exact h, rfl⟩, hs.known, fun b' ho => ?_, hsame⟩
    · unfold updM; split
      · rename_i h; subst h; rw [hs.ver]; exact Nat.le_of_lt hv
      · exact Nat.le_refl _
    · unfold updM at he ⊢; split
      · rename_i h; subst h; simp [hs.ver] at he; omega
      · exact .inr rfl
    · obtain ⟨b', base, h⟩ := hlv
      unfold updM at h; split at h
      · cases h
      · exact ⟨b', base, h⟩
    · obtain ⟨b', base, h, h2⟩ := hlv
      unfold updM at h h2; split at h
      · cases h
      · rename_i hne; rw [if_neg hne] at h2; exact ⟨b', base, h, h2⟩
    · unfold updM; split
      · rename_i h; subst h; rw [hs.opq, hnv] at ho; cases ho
      · rfl
  refine ⟨hstep, fun b' => ?_, fun b' => ?_, fun b1 b2 c base base' h1 h2 => ?_, fun b' => ?_⟩
  rotate_left 3
  · unfold updM upd; split
    · rfl
    · exact hs.opq b'
  · unfold updM upd; split
    · rfl
    · exact hs.ver b'
  · by_cases h : b' = b
    · subst h
      simp only [updM, upd, if_true]
      exact .inl ⟨a, rfl, rfl⟩
    · simp only [updM, upd, h, if_false]
      exact (hs.con b').step hstep fun c base hlc => by rw [hw]
  · unfold updM at h1 h2
    split at h1
    · cases h1
    · split at h2
      · cases h2
      · exact hs.inj b1 b2 c base base' h1 h2

/-! ### what the model's words do -/
section
variable {P : Program} (w : World)
theorem run_info {t : TypeId} {i : TypeInfo} (h : P.info? t = some i) : (typeInfo t).run P w = .ok i w := by simp [typeInfo, h]
theorem run_sizeOf {t : TypeId} {i : TypeInfo} (h : P.info? t = some i) : (sizeOf t).run P w = .ok i.size w := by simp [sizeOf, typeInfo, h]
theorem run_zero {t : TypeId} {i : TypeInfo} {z : Value} (h : P.info? t = some i) (hz : i.zero = some z) : (zeroValue t).run P w = .ok z w := by simp [zeroValue, typeInfo, h, hz]
theorem run_isAgg {t : TypeId} {d : TypeDesc} (h : P.underlying t = some d) : (isAgg t).run P w = .ok (isAggD d) w := by
  simp only [isAgg, Sem.run_bind, run_underlying h, Result.andThen_ok]
  cases d <;> rfl

theorem run_loadVar_agg {t : TypeId} {i : TypeInfo} {d : TypeDesc} (hi : P.info? t = some i) (hd : P.underlying t = some d) (ha : isAggD d = true) (ad : Addr) (f : Nat → Value)
    (h : ∀ j, j < i.size → w.cell? (ad.add j) = some (f j)) : (loadVar t ad).run P w = .ok (.agg ((List.range i.size).map f).toArray) w := by
  simp only [loadVar, Sem.run_bind, run_isAgg w hd, Result.andThen_ok, ha, if_true, run_sizeOf w hi, run_loadCells w ad i.size f h, Sem.run_pure]

theorem run_loadVar_one {t : TypeId} {d : TypeDesc} (hd : P.underlying t = some d) (ha : isAggD d = false) (ad : Addr) (v : Value)
    (h : w.cell? ad = some v) : (loadVar t ad).run P w = .ok v w := by
  simp [loadVar, run_isAgg w hd, ha, h]
end

end Abs
end Go.Proofs.Ytokdeeagghhliaa

namespace Go.Proofs.Ytokdeeagghhliaa
namespace Abs

def Outs (P : Program) (o : Oper) (a : Act) (w : World) (v : Value) (w' : World) : Prop :=
  (execOp a.eval o).run P w = .ok (.value v) w' ∨ ((execOp a.eval o).run P w = .ok .skip w' ∧ v = undef)

def Good (P : Program) (s : St) (o : Oper) (a : Act) (w : World) (M : Ctx) (K : D → Chg → Prop) : Prop :=
  ∃ v w' d δ M', K d δ ∧ s.inr δ ∧ Outs P o a w v w' ∧ Step w M w' M' ∧ Sim w' M' (app s.hp δ) ∧ Rep w' M' d v

theorem Addr.add_add (a : Addr) (n m : Nat) : (a.add n).add m = a.add (n + m) := by
  unfold Addr.add
  by_cases hn : n = 0 <;> by_cases hm : m = 0 <;> simp [hn, hm]
  omega
theorem Addr.lit_add (c base n : Nat) : (⟨c, base, none⟩ : Addr).add n = ⟨c, base + n, none⟩ := by
  unfold Addr.add
  by_cases hn : n = 0 <;> simp [hn]

variable {P : Program} {s : St} {o : Oper} {a : Act} {w : World} {M : Ctx} {K : D → Chg → Prop}

theorem good_same (hs : SimA s a w M) {v : Value} {d : D} (hrun : (execOp a.eval o).run P w = .ok (.value v) w) (hr : Rep w M d v) (hK : K d []) : Good P s o a w M K :=
  ⟨v, w, d, [], M, hK, by simp [St.inr], .inl hrun, (step_same hs.sim rfl).1, hs.sim, hr⟩

theorem at_spec {b ver : Nat} {Q : List D → Prop} (h : s.at b ver Q) : ∃ cs, s.hp b = ⟨ver, .cells cs⟩ ∧ Q cs := by
  unfold St.at at h
  split at h
  · rename_i v cs hb; exact ⟨cs, by rw [← h.1]; exact hb, h.2⟩
  · exact h.elim

theorem at_mem {b ver : Nat} {cs : List D} (hs : SimA s a w M) (hb : s.hp b = ⟨ver, .cells cs⟩) (hne : cs ≠ []) :
    (M b).ver = ver ∧ ∃ c base C e, (M b).loc = some (.mem c base) ∧ w.heap[c]? = some (.cells C e (0, 0)) ∧ base + cs.length ≤ C.size ∧
      ∀ (j : Nat) (d : D), cs[j]? = some d → ∃ v, C[base + j]? = some v ∧ Rep w M d v := by
  have h1 := hs.sim.ver b
  have h2 := hs.sim.con b
  rw [hb] at h1 h2
  refine ⟨h1, ?_⟩
  rcases h2 with ⟨_, _, h⟩ | h
  · exact absurd h hne
  · exact h

theorem cell_of {c base j : Nat} {C : Array Value} {e : TypeId} {fr : Nat × Nat} {v : Value} (hc : w.heap[c]? = some (.cells C e fr)) (hv : C[base + j]? = some v) :
    w.cell? ((⟨c, base, none⟩ : Addr).add j) = some v := by
  rw [Addr.lit_add]
  simp [World.cell?, hc, hv]

theorem load_rep {t : TypeId} {i : TypeInfo} {td : TypeDesc} (hi : P.info? t = some i) (hd : P.underlying t = some td) {cs : List D} {ad : Addr} {off : Nat} {Q : D → Prop}
    (hcell : ∀ (j : Nat) (e : D), cs[j]? = some e → ∃ v, w.cell? (ad.add j) = some v ∧ Rep w M e v) (h : ld (isAggD td) i.size cs off Q) :
    ∃ v d, (loadVar t (ad.add off)).run P w = .ok v w ∧ Rep w M d v ∧ Q d := by
  unfold ld at h
  split at h
  · rename_i ha
    have hex : ∀ j, ∃ v, j < i.size → w.cell? ((ad.add off).add j) = some v ∧ Rep w M (nth cs (off + j)) v := fun j => by
      by_cases hj : j < i.size
      · obtain ⟨v, h1, h2⟩ := hcell (off + j) _ (nth_get (by omega))
        exact ⟨v, fun _ => ⟨by rw [Addr.add_add]; exact h1, h2⟩⟩
      · exact ⟨undef, fun h => absurd h hj⟩
    let f : Nat → Value := fun j => Classical.choose (hex j)
    have hf : ∀ j, j < i.size → w.cell? ((ad.add off).add j) = some (f j) ∧ Rep w M (nth cs (off + j)) (f j) := fun j hj => Classical.choose_spec (hex j) hj
    refine ⟨_, _, run_loadVar_agg w hi hd ha (ad.add off) f (fun j hj => (hf j hj).1), .agg _ _ (by simp; omega) fun j c v hc hv => ?_, h.2⟩
    by_cases hj : j < i.size
    · have hv' : v = f j := by simpa [hj] using hv.symm
      have hc' : c = nth cs (off + j) := by
        rw [List.getElem?_take, if_pos hj, List.getElem?_drop, nth_get (by omega)] at hc
        exact (Option.some.inj hc).symm
      rw [hv', hc']; exact (hf j hj).2
    · rw [List.getElem?_take, if_neg hj] at hc; cases hc
  · rename_i ha
    obtain ⟨v, h1, h2⟩ := hcell off _ (nth_get h.1)
    exact ⟨v, _, run_loadVar_one w hd (by simpa using ha) _ _ h1, h2, h.2⟩

theorem sound_load {t : TypeId} {x : Operand} {i : TypeInfo} {td : TypeDesc} (hs : SimA s a w M) (ho : o.op = .load t x) (hi : P.info? t = some i) (hd : P.underlying t = some td) (h0 : i.size ≠ 0)
    (h : run s o.dst K (.load (isAggD td) i.size (opd x))) : Good P s o a w M K := by
  have hx := val_rep hs x
  simp only [run] at h
  split at h
  · rename_i cs hv
    rw [hv] at hx
    generalize hve : a.eval x = v at hx
    cases hx with
    | adr cs ad u hsp hb hlive hcell hr =>
      obtain ⟨v, d, hrun, hrep, hK⟩ := load_rep (w := w) (M := M) hi hd (ad := ad) (fun j e he => ⟨u j, hcell j e he, hr j e he⟩) h
      have hz : ad.add 0 = ad := by simp [Addr.add]
      rw [hz] at hrun
      exact good_same hs (by simp [execOp, ho, Instr.loadAt, Instr.sureAddr, hve, hrun]) hrep hK
  · rename_i b ver off hv
    rw [hv] at hx
    obtain ⟨cs, hb, hQ⟩ := at_spec h
    have hne : cs ≠ [] := by
      rintro rfl
      unfold ld at hQ
      split at hQ
      · simp at hQ; omega
      · simp at hQ
    obtain ⟨hver, c, base, C, e, hl, hc, hsz, hrep⟩ := at_mem hs hb hne
    generalize hve : a.eval x = v at hx
    cases hx with
    | ptr _ _ _ _ hle hp _ =>
      have hp' := hp hver
      rw [hl] at hp'
      simp only [PtrOk] at hp'
      subst hp'
      obtain ⟨v, d, hrun, hrep', hK⟩ := load_rep (w := w) (M := M) hi hd (ad := ⟨c, base, none⟩) (fun j e he => by
        obtain ⟨v, h1, h2⟩ := hrep j e he
        exact ⟨v, cell_of hc h1, h2⟩) hQ
      rw [Addr.lit_add] at hrun
      exact good_same hs (by simp [execOp, ho, Instr.loadAt, Instr.sureAddr, hve, hrun]) hrep' hK
  · exact h.elim

theorem new_spec {con : Con} {Q : Nat → Nat → Chg → Prop} (h : s.new o.dst con Q) :
    ∃ t, o.dst = some t ∧ t < s.lc.length ∧ (s.hp (s.n + t)).con.isOpq = false ∧ Q (s.n + t) ((s.hp (s.n + t)).ver + 1) [(s.n + t, ⟨(s.hp (s.n + t)).ver + 1, con⟩)] := by
  unfold St.new at h
  split at h
  · exact h.elim
  · rename_i t ht
    exact ⟨t, ht, h.1, by rw [St.hp, mrg_loc]; exact h.2.1, by rw [St.hp, mrg_loc]; exact h.2.2⟩

theorem inr_new {t : Nat} {x : Blk} (ht : t < s.lc.length) : s.inr [(s.n + t, x)] := by
  intro p hp
  simp at hp
  subst hp
  show s.n + t < _
  omega

theorem inr_old {b : Nat} {x : Blk} (hb : (s.hp b).con ≠ .none) : s.inr [(b, x)] := by
  intro p hp
  simp at hp
  subst hp
  refine Nat.lt_of_not_le fun hle => hb ?_
  have e1 : ¬ b < s.n := by simp only at hle; omega
  have e2 : s.lc[b - s.n]? = none := by rw [List.getElem?_eq_none_iff]; simp only at hle; omega
  simp [St.hp, mrg, e1, e2, blk0]

/-- the parts of a new block, out of a value's cells -/
theorem good_newvar (hs : SimA s a w M) {e : TypeId} {C : Array Value} {cs : List D} {Q : D → Chg → Prop} (hrun : (execOp a.eval o).run P w = .ok (.value (.pointer (some ⟨w.heap.size, 0, none⟩))) (w.alloc (.cells C e)))
    (hl : cs.length ≤ C.size) (hr : ∀ (j : Nat) (d : D), cs[j]? = some d → ∃ v, C[j]? = some v ∧ Rep w M d v)
    (h : s.new o.dst (.cells cs) fun id ver δ => Q (.ptr id ver 0) δ) : Good P s o a w M Q := by
  obtain ⟨t, ht, hlt, hnv, hQ⟩ := new_spec h
  obtain ⟨hst, hsim⟩ := sim_new (w' := w.alloc (.cells C e)) hs.sim (s.n + t) hnv C e rfl cs hl hr
  exact ⟨_, _, _, _, _, hQ, inr_new hlt, .inl hrun, hst, hsim, .ptr _ _ _ _ (by simp [updM]) (by simp [updM, PtrOk]) ⟨_, rfl⟩⟩

theorem sound_alloc {e : TypeId} {i : TypeInfo} {z : Value} (hs : SimA s a w M) (ho : o.op = .alloc e) (hi : P.info? e = some i) (hz : i.zero = some z)
    (h : run s o.dst K (.alloc (litD z).cells)) : Good P s o a w M K := by
  simp only [run] at h
  have hrep := litD_rep w M z
  by_cases hsol : (litD z).solid = true
  · obtain ⟨h1, h2⟩ := rep_solid hrep hsol
    exact good_newvar hs (C := z.cells) (e := e) (by simp [execOp, ho, Instr.alloc, run_zero w hi hz, newVar, newRow]) (by omega) (fun j d hd => by
      have hj : j < z.cells.size := by rw [h1]; exact (List.getElem?_eq_some_iff.1 hd).1
      exact ⟨z.cells[j], by simp [hj], h2 j d _ hd (by simp [hj])⟩) h
  · -- nothing is known of the cell
    have htop : (litD z).cells = [.top] ∧ 0 < z.cells.size := by
      unfold litD litC at hsol ⊢
      split
      · rename_i cs; simp [D.solid] at hsol
      · split <;> simp_all [D.solid, D.cells, Value.cells]
    rw [htop.1] at h
    exact good_newvar hs (C := z.cells) (e := e) (cs := [.top]) (by simp [execOp, ho, Instr.alloc, run_zero w hi hz, newVar, newRow]) (Nat.succ_le_of_lt htop.2) (fun j d hd => by
      cases j with
      | zero => simp at hd; subst hd; exact ⟨z.cells[0]'htop.2, by simp [htop.2], .top _⟩
      | succ j => simp at hd) h

theorem sound_box {e : TypeId} {x : Operand} (hs : SimA s a w M) (ho : o.op = .box e x) (h : run s o.dst K (.box (opd x))) : Good P s o a w M K := by
  simp only [run] at h
  obtain ⟨h1, h2⟩ := rep_solid (val_rep hs x) h.1
  exact good_newvar hs (C := (a.eval x).cells) (e := e) (by simp [execOp, ho, Instr.box, newVar, newRow]) (by omega) (fun j d hd => by
    have hj : j < (a.eval x).cells.size := by rw [h1]; exact (List.getElem?_eq_some_iff.1 hd).1
    exact ⟨(a.eval x).cells[j], by simp [hj], h2 j d _ hd (by simp [hj])⟩) h.2

theorem sound_mov {x : Operand} (hs : SimA s a w M) (ho : o.op = .move x ∨ o.op = .assign x) (h : run s o.dst K (.mov (opd x))) : Good P s o a w M K := by
  simp only [run] at h
  rcases ho with ho | ho <;> exact good_same hs (by simp [execOp, ho]) (val_rep hs x) h

theorem sound_pick {c x y : Operand} (hs : SimA s a w M) (ho : o.op = .pick c x y) (h : run s o.dst K (.pick (opd c) (opd x) (opd y))) : Good P s o a w M K := by
  simp only [run] at h
  have hc := val_rep hs c
  split at h
  · rename_i t hv
    rw [hv] at hc
    generalize hve : a.eval c = u at hc
    cases hc with
    | bool _ =>
      refine good_same hs (v := if t then a.eval x else a.eval y) (by simp [execOp, ho, hve, asBool]) ?_ h
      cases t
      · exact val_rep hs y
      · exact val_rep hs x
  · exact h.elim

theorem sound_extract {x : Operand} {i : Nat} (hs : SimA s a w M) (ho : o.op = .extract x i) (h : run s o.dst K (.extract (opd x) i)) : Good P s o a w M K := by
  simp only [run] at h
  have hx := val_rep hs x
  split at h
  · rename_i ds hv
    rw [hv] at hx
    generalize hve : a.eval x = u at hx
    cases hx with
    | tup _ vs hl hr =>
      have hi : i < vs.size := by rw [hl]; exact h.1
      exact good_same hs (v := vs[i]) (by simp [execOp, ho, hve, Instr.extract, hi]) (hr i _ _ (nth_get h.1) (by simp [hi])) h.2
  · exact h.elim

theorem sound_nilck {x : Operand} (hs : SimA s a w M) (ho : o.op = .nilCheck x) (h : run s o.dst K (.nilck (opd x))) : Good P s o a w M K := by
  simp only [run] at h
  have hx := val_rep hs x
  split at h
  · rename_i cs hv
    rw [hv] at hx
    generalize hve : a.eval x = u at hx
    have hx' := hx
    cases hx with
    | adr _ ad u hsp hb hlive hcell hr => exact good_same hs (by simp [execOp, ho, hve]) hx' h
  · rename_i f cs hv
    rw [hv] at hx
    generalize hve : a.eval x = u at hx
    have hx' := hx
    cases hx with
    | fn _ _ vs hl hr => exact good_same hs (by simp [execOp, ho, hve]) hx' h
  · rename_i b ver off hv
    rw [hv] at hx
    obtain ⟨cs, hb, hne, hQ⟩ := at_spec h
    obtain ⟨hver, c, base, C, e, hl, hc, hsz, hrep⟩ := at_mem hs hb hne
    generalize hve : a.eval x = u at hx
    have hx' := hx
    cases hx with
    | ptr _ _ _ _ hle hp _ =>
      have hp' := hp hver
      rw [hl] at hp'
      simp only [PtrOk] at hp'
      subst hp'
      exact good_same hs (by simp [execOp, ho, hve]) hx' hQ
  · exact h.elim

theorem sound_mkfn {f : FuncId} {first caps : Array Operand} (hs : SimA s a w M) (ho : o.op = .makeFunc (.func f) first caps) (hf : first.isEmpty = true) (h : run s o.dst K (.mkfn f (caps.toList.map opd))) : Good P s o a w M K := by
  simp only [run] at h
  have he : first = #[] := by simpa using hf
  refine good_same hs (v := .func (.func f) #[] (caps.map a.eval)) (by simp [execOp, ho, Instr.makeFunc, he]) (.fn f _ _ (by simp) fun i c v hc hv => ?_) h
  simp only [List.getElem?_map, Array.getElem?_toList, Option.map_eq_some_iff, List.map_map, Array.getElem?_map] at hc hv
  obtain ⟨x, hx, rfl⟩ := hc
  obtain ⟨y, hy, rfl⟩ := hv
  rw [hx] at hy; injection hy with hy; subst hy
  exact val_rep hs x

end Abs
end Go.Proofs.Ytokdeeagghhliaa

namespace Go.Proofs.Ytokdeeagghhliaa
namespace Abs
variable {P : Program} {s : St} {o : Oper} {a : Act} {w : World} {M : Ctx} {K : D → Chg → Prop}

theorem sound_un {op : UnOp} {t : TypeId} {x : Operand} (hs : SimA s a w M) (ho : o.op = .unOp op t x) (h : run s o.dst K (.un op (opd x))) : Good P s o a w M K := by
  simp only [run] at h
  have hx := val_rep hs x
  split at h
  · rename_i b hv
    rw [hv] at hx
    generalize hve : a.eval x = u at hx
    cases hx with
    | bool _ => exact good_same hs (v := .bool !b) (by simp [execOp, ho, hve, Op.unary]) (.bool _) h
  · rename_i hv
    rw [hv] at hx
    generalize hve : a.eval x = u at hx
    cases hx with
    | abool b => exact good_same hs (v := .bool !b) (by simp [execOp, ho, hve, Op.unary]) (.abool _) h
  · rename_i k n hv
    rw [hv] at hx
    generalize hve : a.eval x = u at hx
    cases hx with
    | int _ _ => exact good_same hs (v := .int k (k.wrap (0 - n))) (by simp [execOp, ho, hve, Op.unary, Op.intArith]) (.int _ _) h
  · exact h.elim

theorem sound_conv {t u : TypeId} {k k' : IntKind} {x : Operand} (hs : SimA s a w M) (ho : o.op = .convert t u x) (ht : P.underlying t = some (.int k')) (hu : P.underlying u = some (.int k)) (h : run s o.dst K (.conv k (opd x))) : Good P s o a w M K := by
  simp only [run] at h
  have hx := val_rep hs x
  split at h
  · rename_i k1 n hv
    rw [hv] at hx
    generalize hve : a.eval x = v at hx
    cases hx with
    | int _ _ => exact good_same hs (v := .int k (k.wrap n)) (by simp [execOp, ho, hve, convert, run_underlying ht, run_underlying hu, Conv.intToInt]) (.int _ _) h
  · exact h.elim

theorem sound_field {t : TypeId} {x : Operand} {f : Nat} {fs : Array Field} {fd : Field} {i : TypeInfo} {td : TypeDesc} (hs : SimA s a w M) (ho : o.op = .field t x f) (ht : P.underlying t = some (.struct fs)) (hf : fs[f]? = some fd)
    (hi : P.info? fd.type = some i) (hd : P.underlying fd.type = some td) (h : run s o.dst K (.field (isAggD td) fd.offset i.size (opd x))) : Good P s o a w M K := by
  simp only [run] at h
  have hx := val_rep hs x
  split at h
  · rename_i cs hv
    rw [hv] at hx
    generalize hve : a.eval x = v at hx
    cases hx with
    | agg _ vs hl hr =>
      unfold ld at h
      split at h
      · rename_i ha
        refine good_same hs (v := .agg (vs.extract fd.offset (fd.offset + i.size))) (by simp [execOp, ho, hve, Instr.field, run_underlying ht, hf, asAgg, part, run_isAgg w hd, ha, run_sizeOf w hi]) (.agg _ _ (by simp [hl]; omega) fun j c u hc hu => ?_) h.2
        by_cases hj : j < i.size
        · rw [List.getElem?_take, if_pos hj, List.getElem?_drop] at hc
          rw [Array.getElem?_extract] at hu
          split at hu
          · exact hr _ _ _ hc hu
          · cases hu
        · rw [List.getElem?_take, if_neg hj] at hc; cases hc
      · rename_i ha
        have hlt : fd.offset < vs.size := by rw [hl]; exact h.1
        exact good_same hs (v := vs[fd.offset]) (by simp [execOp, ho, hve, Instr.field, run_underlying ht, hf, asAgg, part, run_isAgg w hd, ha, hlt]) (hr _ _ _ (nth_get h.1) (by simp [hlt])) h.2
  · exact h.elim

theorem rep_ptr {b ver off c base : Nat} {u : Value} (hx : Rep w M (.ptr b ver off) u) (hver : (M b).ver = ver) (hl : (M b).loc = some (.mem c base)) : u = .pointer (some ⟨c, base + off, none⟩) := by
  cases hx with
  | ptr _ _ _ _ hle hp _ =>
    have hp' := hp hver
    rw [hl] at hp'
    exact hp'

theorem rep_ptr_mk {b ver off c base : Nat} (hver : (M b).ver = ver) (hl : (M b).loc = some (.mem c base)) : Rep w M (.ptr b ver off) (.pointer (some ⟨c, base + off, none⟩)) :=
  .ptr _ _ _ _ (Nat.le_of_eq hver.symm) (fun _ => by rw [hl]; rfl) ⟨_, rfl⟩

theorem rep_adr_drop {cs : List D} {ad : Addr} (off : Nat) (hx : Rep w M (.adr cs) (.pointer (some ad))) : Rep w M (.adr (cs.drop off)) (.pointer (some (ad.add off))) := by
  cases hx with
  | adr _ _ u hsp hb hlive hcell hr =>
    refine .adr _ _ (fun j => u (off + j)) (by unfold Addr.add; split <;> simp_all) (by rw [Addr.block_add]; exact hb) (by rw [Addr.block_add]; exact hlive) (fun j e he => ?_) fun j e he => ?_
    · rw [List.getElem?_drop] at he; rw [Addr.add_add]; exact hcell _ _ he
    · rw [List.getElem?_drop] at he; exact hr _ _ he

theorem sound_fieldAddr {t : TypeId} {x : Operand} {f : Nat} {fs : Array Field} {fd : Field} {i : TypeInfo} (hs : SimA s a w M) (ho : o.op = .fieldAddr t x f) (ht : P.underlying t = some (.struct fs)) (hf : fs[f]? = some fd)
    (hi : P.info? fd.type = some i) (hsz : i.size ≠ 0) (h : run s o.dst K (.fieldAddr fd.offset (opd x))) : Good P s o a w M K := by
  simp only [run] at h
  have hx := val_rep hs x
  have hrun : ∀ ad : Addr, (fieldPlace ad fd).run P w = .ok (ad.add fd.offset) w := fun ad => by simp [fieldPlace, run_sizeOf w hi, hsz]
  split at h
  · rename_i cs hv
    rw [hv] at hx
    generalize hve : a.eval x = v at hx
    have hx' := hx
    cases hx with
    | adr _ ad u hsp hb hlive hcell hr =>
      exact good_same hs (v := .pointer (some (ad.add fd.offset))) (by simp [execOp, ho, hve, Instr.fieldAt, run_underlying ht, hf, Instr.sureAddr, hrun]) (rep_adr_drop _ hx') h
  · rename_i b ver off hv
    rw [hv] at hx
    obtain ⟨cs, hb, hne, hQ⟩ := at_spec h
    obtain ⟨hver, c, base, C, e, hl, hc, hsz, hrep⟩ := at_mem hs hb hne
    have hve := rep_ptr hx hver hl
    have := rep_ptr_mk (w := w) (off := off + fd.offset) hver hl
    rw [← Nat.add_assoc] at this
    exact good_same hs (v := .pointer (some ⟨c, base + off + fd.offset, none⟩)) (by simp [execOp, ho, hve, Instr.fieldAt, run_underlying ht, hf, Instr.sureAddr, hrun, Addr.lit_add]) this hQ
  · exact h.elim

theorem sound_idxS {t e : TypeId} {x ix : Operand} {i : TypeInfo} (hs : SimA s a w M) (ho : o.op = .indexAddr t x ix) (ht : P.underlying t = some (.slice e)) (hi : P.info? e = some i)
    (h : run s o.dst K (.idxS i.size (opd x) (opd ix))) : Good P s o a w M K := by
  simp only [run] at h
  have hx := val_rep hs x
  have hix := val_rep hs ix
  split at h
  · rename_i l k n hv hv2
    rw [hv] at hx
    rw [hv2] at hix
    generalize hve : a.eval x = v at hx
    generalize hve2 : a.eval ix = v2 at hix
    cases hix with
    | int _ _ =>
      obtain ⟨h0, h1, h2, hK⟩ := h
      cases hx with
      | lst0 a c => simp at h1; omega
      | lst _ ad c sz u hcc hsp hb hlive hsz hcell hr =>
        have hn : n.toNat < l.length := by omega
        have hmem : nth l n.toNat ∈ l := List.mem_of_getElem? (nth_get hn)
        have hszi : sz = i.size := by rw [← hsz _ hmem, h2]
        refine good_same hs (v := .pointer (some (ad.add (n.toNat * i.size)))) (by simp [execOp, ho, hve, hve2, Instr.indexAt, asIntOf, run_underlying ht, run_sizeOf w hi, h0, h1]) ?_ hK
        refine .adr _ _ (u n.toNat) (by unfold Addr.add; split <;> simp_all) (by rw [Addr.block_add]; exact hb) (by rw [Addr.block_add]; exact hlive) (fun j d hd => ?_) fun j d hd => hr _ _ (nth_get hn) j d hd
        rw [Addr.add_add, ← hszi]
        exact hcell _ _ (nth_get hn) j d hd
  · rename_i sz' b ver off len k n hv hv2
    rw [hv] at hx
    rw [hv2] at hix
    obtain ⟨rfl, h0, h1, hat⟩ := h
    obtain ⟨cs, hb, hQ⟩ := at_spec hat
    generalize hve : a.eval x = v at hx
    generalize hve2 : a.eval ix = v2 at hix
    have hM1 := hs.sim.ver b
    have hM2 := hs.sim.con b
    rw [hb] at hM1 hM2
    cases hix with
    | int _ _ =>
      cases hx with
      | ref _ _ _ _ _ _ hle hp h1' =>
        have hp' := hp hM1
        rcases hM2 with ⟨a', hl, hcs⟩ | ⟨c, base, C, e', hl, hc, hsz, hrep⟩
        · rw [hl] at hp'
          obtain ⟨_, h3, _⟩ := hp'
          omega
        · rw [hl] at hp'
          rcases hp' with ⟨h3, _⟩ | ⟨cap, rfl, hcap, hroom⟩
          · omega
          · have hp2 := rep_ptr_mk (w := w) (M := M) (off := off + n.toNat * i.size) hM1 hl
            rw [← Nat.add_assoc] at hp2
            exact good_same hs (v := .pointer (some ⟨c, base + off + n.toNat * i.size, none⟩)) (by simp [execOp, ho, hve, hve2, Instr.indexAt, asIntOf, run_underlying ht, run_sizeOf w hi, h0, h1, Addr.lit_add]) hp2 hQ
  · exact h.elim

theorem sound_idxA {t e : TypeId} {n : Nat} {x ix : Operand} {i : TypeInfo} (hs : SimA s a w M) (ho : o.op = .indexAddr t x ix) (ht : P.underlying t = some (.array n e)) (hi : P.info? e = some i)
    (h : run s o.dst K (.idxA n i.size (opd x) (opd ix))) : Good P s o a w M K := by
  simp only [run] at h
  have hx := val_rep hs x
  have hix := val_rep hs ix
  split at h
  · rename_i b ver off k m hv hv2
    rw [hv] at hx
    rw [hv2] at hix
    obtain ⟨h0, h1, hat⟩ := h
    obtain ⟨cs, hb, hne, hQ⟩ := at_spec hat
    obtain ⟨hver, c, base, C, e', hl, hc, hsz, hrep⟩ := at_mem hs hb hne
    have hve := rep_ptr hx hver hl
    generalize hve2 : a.eval ix = v2 at hix
    cases hix with
    | int _ _ =>
      have hp2 := rep_ptr_mk (w := w) (M := M) (off := off + m.toNat * i.size) hver hl
      rw [← Nat.add_assoc] at hp2
      exact good_same hs (v := .pointer (some ⟨c, base + off + m.toNat * i.size, none⟩)) (by simp [execOp, ho, hve, hve2, Instr.indexAt, asIntOf, run_underlying ht, run_sizeOf w hi, h0, h1, Addr.lit_add, Instr.sureAddr]) hp2 hQ
  · rename_i cs k m hv hv2
    rw [hv] at hx
    rw [hv2] at hix
    obtain ⟨h0, h1, hQ⟩ := h
    generalize hve : a.eval x = v at hx
    generalize hve2 : a.eval ix = v2 at hix
    have hx' := hx
    cases hix with
    | int _ _ =>
      cases hx with
      | adr _ ad u hsp hb hlive hcell hr =>
        exact good_same hs (v := .pointer (some (ad.add (m.toNat * i.size)))) (by simp [execOp, ho, hve, hve2, Instr.indexAt, asIntOf, run_underlying ht, run_sizeOf w hi, h0, h1, Instr.sureAddr]) (rep_adr_drop _ hx') hQ
  · exact h.elim

theorem sound_idx {t e : TypeId} {n : Nat} {x ix : Operand} {i : TypeInfo} {td : TypeDesc} (hs : SimA s a w M) (ho : o.op = .index t x ix) (ht : P.underlying t = some (.array n e)) (hi : P.info? e = some i) (hd : P.underlying e = some td)
    (h : run s o.dst K (.idx (isAggD td) n i.size (opd x) (opd ix))) : Good P s o a w M K := by
  simp only [run] at h
  have hx := val_rep hs x
  have hix := val_rep hs ix
  split at h
  · rename_i cs k m hv hv2
    rw [hv] at hx
    rw [hv2] at hix
    obtain ⟨h0, h1, hQ⟩ := h
    generalize hve : a.eval x = v at hx
    generalize hve2 : a.eval ix = v2 at hix
    cases hix with
    | int _ _ =>
      cases hx with
      | agg _ vs hl hr =>
        unfold ld at hQ
        split at hQ
        · rename_i ha
          refine good_same hs (v := .agg (vs.extract (m.toNat * i.size) (m.toNat * i.size + i.size))) (by simp [execOp, ho, hve, hve2, Instr.index, asIntOf, run_underlying ht, h0, h1, part, run_isAgg w hd, ha, run_sizeOf w hi]) (.agg _ _ (by simp [hl]; omega) fun j c u hc hu => ?_) hQ.2
          by_cases hj : j < i.size
          · rw [List.getElem?_take, if_pos hj, List.getElem?_drop] at hc
            rw [Array.getElem?_extract] at hu
            split at hu
            · exact hr _ _ _ hc hu
            · cases hu
          · rw [List.getElem?_take, if_neg hj] at hc; cases hc
        · rename_i ha
          have hlt : m.toNat * i.size < vs.size := by rw [hl]; exact hQ.1
          exact good_same hs (v := vs[m.toNat * i.size]) (by simp [execOp, ho, hve, hve2, Instr.index, asIntOf, run_underlying ht, h0, h1, part, run_isAgg w hd, ha, run_sizeOf w hi, hlt]) (hr _ _ _ (nth_get hQ.1) (by simp [hlt])) hQ.2
  · exact h.elim

theorem splice_get {cs xs : List D} {off : Nat} (h : off + xs.length ≤ cs.length) (j : Nat) :
    (splice cs off xs)[j]? = if j < off then cs[j]? else if j < off + xs.length then xs[j - off]? else cs[j]? := by
  unfold splice
  have hmin : min off cs.length = off := by omega
  by_cases h1 : j < off
  · rw [List.append_assoc, List.getElem?_append_left (by simp [hmin]; exact h1), List.getElem?_take, if_pos h1, if_pos h1]
  · rw [if_neg h1]
    by_cases h2 : j < off + xs.length
    · rw [if_pos h2, List.getElem?_append_left (by simp [hmin]; exact h2), List.getElem?_append_right (by simp [hmin]; omega)]
      simp [hmin]
    · rw [if_neg h2, List.getElem?_append_right (by simp [hmin]; omega), List.getElem?_drop]
      congr 1
      simp [hmin]; omega

theorem splice_length {cs xs : List D} {off : Nat} (h : off + xs.length ≤ cs.length) : (splice cs off xs).length = cs.length := by
  unfold splice; simp; omega

theorem sound_store {t : TypeId} {x y : Operand} {i : TypeInfo} (hs : SimA s a w M) (ho : o.op = .store t x y) (hi : P.info? t = some i) (h0 : i.size ≠ 0)
    (h : run s o.dst K (.store i.size (opd x) (opd y))) : Good P s o a w M K := by
  simp only [run] at h
  have hx := val_rep hs x
  have hy := val_rep hs y
  split at h
  · rename_i b ver off hv
    rw [hv] at hx
    obtain ⟨cs, hb, hlen, hone, hfit, hK⟩ := at_spec h
    have hne : cs ≠ [] := by rintro rfl; simp at hfit; omega
    obtain ⟨hver, c, base, C, e, hl, hc, hsz, hrep⟩ := at_mem hs hb hne
    have hve := rep_ptr hx hver hl
    have hsol : (s.val (opd y)).solid = true := by
      cases hd : s.val (opd y) <;> first | rfl | (rw [hd] at hone hlen; simp [D.cells, D.one] at hone)
    obtain ⟨hy1, hy2⟩ := rep_solid hy hsol
    have h1 : ∀ v ∈ (a.eval y).cells.toList, v.oneCell' = true := fun v hvm => by
      obtain ⟨j, hj⟩ := List.mem_iff_getElem?.1 hvm
      have hj' : j < (s.val (opd y)).cells.length := by rw [← hy1, ← Array.length_toList]; exact (List.getElem?_eq_some_iff.1 hj).1
      exact rep_one (hy2 j _ v (nth_get hj') (by simpa using hj)) (hone _ (List.mem_of_getElem? (nth_get hj')))
    have hst := run_storeCells_at P c (base + off) e (a.eval y).cells.toList 0 C w hc (by simp; omega) h1
    have hrun : (execOp a.eval o).run P w = .ok .skip (w.setRow c (C.toList.take (base + off) ++ (a.eval y).cells.toList ++ C.toList.drop (base + off + (a.eval y).cells.toList.length)).toArray) := by
      simp only [Nat.add_zero] at hst
      simp [execOp, ho, hve, Instr.storeAt, Instr.sureAddr, storeVar, run_sizeOf w hi, hy1, hlen]
      simp [hy1, hlen] at hst
      rw [hst]; rfl
    have hC' : (C.toList.take (base + off) ++ (a.eval y).cells.toList ++ C.toList.drop (base + off + (a.eval y).cells.toList.length)).toArray.size = C.size := by
      simp; omega
    obtain ⟨hst', hsim'⟩ := sim_put (w' := w.setRow c (C.toList.take (base + off) ++ (a.eval y).cells.toList ++ C.toList.drop (base + off + (a.eval y).cells.toList.length)).toArray) hs.sim b c base (by rw [hb]; rfl) C _ e hl hc
      (by simp) (fun k hk => setRow_other w c k _ hk) (setRow_heap w c C _ e _ hc) hC' ver base (splice cs off (s.val (opd y)).cells) (.inl ⟨by rw [hb], rfl⟩) (by rw [splice_length (by omega)]; exact hsz) (fun j d hd => by
        rw [splice_get (by omega)] at hd
        have hmin : min (base + off) C.toList.length = base + off := by simp; omega
        simp only [List.getElem?_toArray]
        split at hd
        · rename_i hj
          obtain ⟨v, hv1, hv2⟩ := hrep j d hd
          refine ⟨v, ?_, hv2⟩
          rw [List.append_assoc, List.getElem?_append_left (by simp; omega), List.getElem?_take, if_pos (by omega)]
          simpa using hv1
        · split at hd
          · rename_i hj hj2
            have hlt : j - off < (a.eval y).cells.size := by rw [hy1]; omega
            refine ⟨(a.eval y).cells[j - off], ?_, hy2 (j - off) d _ hd (by simp [hlt])⟩
            rw [List.getElem?_append_left (by simp; omega), List.getElem?_append_right (by simp; omega)]
            have e1 : base + j - min (base + off) C.size = j - off := by omega
            simp [e1, hlt]
          · rename_i hj hj2
            obtain ⟨v, hv1, hv2⟩ := hrep j d hd
            refine ⟨v, ?_, hv2⟩
            rw [List.getElem?_append_right (by simp; omega), List.getElem?_drop]
            have e1 : base + off + (a.eval y).cells.toList.length + (base + j - (C.toList.take (base + off) ++ (a.eval y).cells.toList).length) = base + j := by simp; omega
            rw [e1]; simpa using hv1)
    exact ⟨undef, _, _, _, _, hK, inr_old (by rw [hb]; simp), .inr ⟨hrun, rfl⟩, hst', hsim', .top _⟩
  · exact h.elim

end Abs
end Go.Proofs.Ytokdeeagghhliaa

namespace Go.Proofs.Ytokdeeagghhliaa
namespace Abs
variable {P : Program} {s : St} {o : Oper} {a : Act} {w : World} {M : Ctx} {K : D → Chg → Prop}

section
variable {op : BinOp} {t : TypeId} {x y : Operand}
theorem eqGuard_int (k k' : IntKind) (m n : Int) : (eqGuard op t x y (.int k m) (.int k' n)).run P w = .ok () w := by cases op <;> rfl
theorem eqGuard_bool (b c : Bool) : (eqGuard op t x y (.bool b) (.bool c)).run P w = .ok () w := by cases op <;> rfl
theorem eqGuard_str (b c : ByteArray) : (eqGuard op t x y (.string b) (.string c)).run P w = .ok () w := by cases op <;> rfl
theorem eqGuard_slice (p q : Option Addr) (i j k l : Nat) : (eqGuard op t x y (.slice p i j) (.slice q k l)).run P w = .ok () w := by cases op <;> rfl
theorem eqGuard_ptr (p q : Option Addr) : (eqGuard op t x y (.pointer p) (.pointer q)).run P w = .ok () w := by cases op <;> rfl
theorem eqGuard_map (p q : Option Nat) : (eqGuard op t x y (.map p) (.map q)).run P w = .ok () w := by cases op <;> rfl
theorem eqGuard_nf (v : Value) : (eqGuard op t x y v .nilFunc).run P w = .ok () w := by cases op <;> cases v <;> rfl
theorem eqGuard_fn (v : Value) : (eqGuard op t x y .nilFunc v).run P w = .ok () w := by cases op <;> rfl
end

theorem execOp_bin {op : BinOp} {t ty : TypeId} {x y : Operand} (ho : o.op = .binOp op t x y ty) {u v r : Value} (hx : a.eval x = u) (hy : a.eval y = v) (hg : (eqGuard op t x y u v).run P w = .ok () w)
    (hb : (binOp op t u v).run P w = .ok r w) : (execOp a.eval o).run P w = .ok (.value r) w := by
  simp [execOp, ho, hx, hy, hg, hb]

theorem sound_bin {op : BinOp} {t ty : TypeId} {x y : Operand} (hs : SimA s a w M) (ho : o.op = .binOp op t x y ty)
    (h : run s o.dst K (.bin op (opd x) (opd y))) : Good P s o a w M K := by
  simp only [run] at h
  have hx := val_rep hs x
  have hy := val_rep hs y
  unfold binD at h
  split at h
  · rename_i k n k' m hv hv2
    rw [hv] at hx
    rw [hv2] at hy
    generalize hve : a.eval x = u at hx
    generalize hve2 : a.eval y = u2 at hy
    obtain ⟨rfl, h⟩ := h
    cases hx with
    | int _ _ =>
      cases hy with
      | int _ _ =>
        have go : ∀ (r : Value) (d : D), (binOp op t (.int k n) (.int k m)).run P w = .ok r w → Rep w M d r → K d [] → Good P s o a w M K :=
          fun r d hb hr hK => good_same hs (execOp_bin ho hve hve2 (eqGuard_int _ _ _ _) hb) hr hK
        cases op <;> simp only at h
        case add => exact go _ _ (by simp [binOp, Op.intArith]) (.int _ _) h
        case sub => exact go _ _ (by simp [binOp, Op.intArith]) (.int _ _) h
        case mul => exact go _ _ (by simp [binOp, Op.intArith]) (.int _ _) h
        case quo => exact go _ _ (by simp [binOp, Op.intDiv, h.1]) (.int _ _) h.2
        case rem => exact go _ _ (by simp [binOp, Op.intDiv, h.1]) (.int _ _) h.2
        case eql => exact go _ _ (by simp [binOp, Op.intCmp]) (.bool _) h
        case neq => exact go _ _ (by simp [binOp, Op.intCmp]) (.bool _) h
        case lss => exact go _ _ (by simp [binOp, Op.intCmp]) (.bool _) h
        case leq => exact go _ _ (by simp [binOp, Op.intCmp]) (.bool _) h
        case gtr => exact go _ _ (by simp [binOp, Op.intCmp]) (.bool _) h
        case geq => exact go _ _ (by simp [binOp, Op.intCmp]) (.bool _) h
  · rename_i n m hv hv2
    rw [hv] at hx
    rw [hv2] at hy
    generalize hve : a.eval x = u at hx
    generalize hve2 : a.eval y = u2 at hy
    cases hx with
    | str _ =>
      cases hy with
      | str _ =>
        cases op <;> simp only at h
        case eql => exact good_same hs (execOp_bin ho hve hve2 (eqGuard_str _ _) (by simp only [binOp, Op.stringOp, Sem.run_pure])) (.bool _) h
        case neq => exact good_same hs (execOp_bin ho hve hve2 (eqGuard_str _ _) (by simp only [binOp, Op.stringOp, Sem.run_pure])) (.bool _) h
  · exact h.elim

theorem sound_eqb {op : BinOp} (hop : op = .eql ∨ op = .neq) {t ty : TypeId} {x y : Operand} (hs : SimA s a w M) (ho : o.op = .binOp op t x y ty) (ht : P.underlying t = some .bool)
    (h : run s o.dst K (.eqb (op == .neq) (opd x) (opd y))) : Good P s o a w M K := by
  simp only [run] at h
  have hx := val_rep hs x
  have hy := val_rep hs y
  split at h
  · rename_i b c hv hv2
    rw [hv] at hx
    rw [hv2] at hy
    generalize hve : a.eval x = u at hx
    generalize hve2 : a.eval y = u2 at hy
    cases hx with
    | bool _ =>
      cases hy with
      | bool _ =>
        refine good_same hs (execOp_bin ho hve hve2 (eqGuard_bool _ _) ?_) (.bool _) h
        rcases hop with rfl | rfl
        · rw [run_eql_bool w t b c ht]; cases b <;> cases c <;> rfl
        · rw [run_neq_bool w t b c ht]; cases b <;> cases c <;> rfl
  · exact h.elim

/-- whether a slice's, a pointer's, a map's or a function's value is nil -/
def isNilV : Value → Bool
  | .slice p _ _ => p.isNone
  | .pointer p => p.isNone
  | .map p => p.isNone
  | .nilFunc => true
  | _ => false

inductive NilKind (P : Program) (t : TypeId) : Value → Value → Prop
  | slice (e : TypeId) (h : P.underlying t = some (.slice e)) (p : Option Addr) (i j : Nat) : NilKind P t (.slice p i j) (.slice none 0 0)
  | ptr (e : TypeId) (h : P.underlying t = some (.pointer e)) (p : Option Addr) : NilKind P t (.pointer p) (.pointer none)
  | map (k e : TypeId) (h : P.underlying t = some (.map k e)) (p : Option Nat) : NilKind P t (.map p) (.map none)
  | fn (ps rs : Array TypeId) (v : Bool) (h : P.underlying t = some (.func ps rs v)) (f : Fn) (first caps : Array Value) : NilKind P t (.func f first caps) .nilFunc
  | nilfn (ps rs : Array TypeId) (v : Bool) (h : P.underlying t = some (.func ps rs v)) : NilKind P t .nilFunc .nilFunc

theorem equalIn_nil (d : Nat) {t : TypeId} {u n : Value} (h : NilKind P t u n) :
    (Op.equalIn (d + 1) t u n).run P w = .ok (isNilV u) w ∧ (Op.equalIn (d + 1) t n u).run P w = .ok (isNilV u) w := by
  cases h with
  | slice e h p i j => cases p <;> simp [Op.equalIn, run_underlying h, isNilV]
  | ptr e h p => cases p <;> simp [Op.equalIn, run_underlying h, isNilV]
  | map k e h p => cases p <;> simp [Op.equalIn, run_underlying h, isNilV]
  | fn ps rs v h f first caps => simp [Op.equalIn, run_underlying h, isNilV]
  | nilfn ps rs v h => simp [Op.equalIn, run_underlying h, isNilV]

theorem run_nileq {op : BinOp} (hop : op = .eql ∨ op = .neq) {t : TypeId} {u n : Value} (h : NilKind P t u n) :
    (binOp op t u n).run P w = .ok (.bool (isNilV u != (op == .neq))) w ∧ (binOp op t n u).run P w = .ok (.bool (isNilV u != (op == .neq))) w := by
  obtain ⟨h1, h2⟩ := equalIn_nil (w := w) 9999 h
  have h1' : (Op.equal t u n).run P w = .ok (isNilV u) w := h1
  have h2' : (Op.equal t n u).run P w = .ok (isNilV u) w := h2
  have e1 : ∀ b : Bool, (b != (BinOp.eql == BinOp.neq)) = b := fun b => by cases b <;> rfl
  have e2 : ∀ b : Bool, (b != (BinOp.neq == BinOp.neq)) = !b := fun b => by cases b <;> rfl
  cases h <;> rcases hop with rfl | rfl <;> simp only [binOp, Sem.run_bind, h1', h2', Result.andThen_ok, Sem.run_pure, e1, e2, and_self]

theorem nil_guard {op : BinOp} {t : TypeId} {x y : Operand} {u n : Value} (h : NilKind P t u n) : (eqGuard op t x y u n).run P w = .ok () w ∧ (eqGuard op t x y n u).run P w = .ok () w := by
  cases h with
  | slice e h p i j => exact ⟨eqGuard_slice .., eqGuard_slice ..⟩
  | ptr e h p => exact ⟨eqGuard_ptr .., eqGuard_ptr ..⟩
  | map k e h p => exact ⟨eqGuard_map .., eqGuard_map ..⟩
  | fn ps rs v h f first caps => exact ⟨eqGuard_nf .., eqGuard_fn ..⟩
  | nilfn ps rs v h => exact ⟨eqGuard_nf .., eqGuard_fn ..⟩

def kindV (k : Nat) (v : Value) : Prop :=
  match k with
  | 0 => ∃ p i j, v = .slice p i j
  | 1 => ∃ p, v = .pointer p
  | 2 => ∃ p, v = .map p
  | 3 => (∃ f c, v = .func f #[] c) ∨ v = .nilFunc
  | _ => False

/-- the outcome of a test for nil -/
theorem nileq_rep (hs : SimA s a w M) {x : Operand} {k : Nat} {neg : Bool} (h : run s o.dst K (.nileq k neg (opd x))) :
    ∃ d, Rep w M d (.bool (isNilV (a.eval x) != neg)) ∧ K d [] ∧ kindV k (a.eval x) := by
  simp only [run] at h
  have hx := val_rep hs x
  generalize a.eval x = v at hx ⊢
  split at h
  case h_12 => exact h.elim
  all_goals (rename_i hv; rw [hv] at hx)
  · cases hx; exact ⟨_, by cases neg <;> exact .bool _, h, ⟨_, _, _, rfl⟩⟩
  · cases hx; exact ⟨_, by cases neg <;> exact .bool _, h, ⟨_, rfl⟩⟩
  · cases hx; exact ⟨_, by cases neg <;> exact .bool _, h, ⟨_, rfl⟩⟩
  · cases hx; exact ⟨_, by cases neg <;> exact .bool _, h, .inr rfl⟩
  · cases hx; exact ⟨_, .abool _, h, ⟨_, _, _, rfl⟩⟩
  · rename_i l
    cases hx with
    | lst0 p c => exact ⟨_, .abool _, h.1 rfl, ⟨_, _, _, rfl⟩⟩
    | lst _ ad c sz u hcc hsp hb hlive hsz hcell hr =>
      by_cases hl : l = []
      · exact ⟨_, .abool _, h.1 hl, ⟨_, _, _, rfl⟩⟩
      · exact ⟨_, by cases neg <;> exact .bool _, h.2 hl, ⟨_, _, _, rfl⟩⟩
  · rename_i sz b ver off len
    obtain ⟨cs, hb, h1, h2⟩ := at_spec h
    have hM1 := hs.sim.ver b
    have hM2 := hs.sim.con b
    rw [hb] at hM1 hM2
    cases hx with
    | ref _ _ _ _ _ _ hle hp hv' =>
      obtain ⟨p, i, j, rfl⟩ := hv'
      by_cases hl : len = 0
      · exact ⟨_, .abool _, h1 hl, ⟨_, _, _, rfl⟩⟩
      · have hp' := hp hM1
        rcases hM2 with ⟨a', hloc, _⟩ | ⟨c, base, C, e, hloc, _⟩
        · rw [hloc] at hp'; exact absurd hp'.2.1 hl
        · rw [hloc] at hp'
          rcases hp' with ⟨h3, _⟩ | ⟨cap, h3, _⟩
          · exact absurd h3 hl
          · injection h3 with h3 h4 h5
            subst h3
            exact ⟨_, by cases neg <;> exact .bool _, h2 hl, ⟨_, _, _, rfl⟩⟩
  · cases hx; exact ⟨_, by cases neg <;> exact .bool _, h, ⟨_, rfl⟩⟩
  · cases hx; exact ⟨_, by cases neg <;> exact .bool _, h, .inl ⟨_, _, rfl⟩⟩
  · rename_i b ver off
    obtain ⟨cs, hb, hne, hK⟩ := at_spec h
    obtain ⟨hver, c, base, C, e, hl, hc, hsz, hrep⟩ := at_mem hs hb hne
    have hve := rep_ptr hx hver hl
    subst hve
    exact ⟨_, by cases neg <;> exact .bool _, hK, ⟨_, rfl⟩⟩
  · rename_i b ver
    unfold St.atm at h
    split at h
    · rename_i v' es hb
      have hM1 := hs.sim.ver b
      have hM2 := hs.sim.con b
      rw [show s.hp b = s.blk b from rfl, hb] at hM1 hM2
      obtain ⟨c, E, cl, hloc, _⟩ := hM2
      cases hx with
      | map _ _ _ hle hp h1 =>
        have hp' := hp (hM1.trans h.1)
        rw [hloc] at hp'
        subst hp'
        exact ⟨_, by cases neg <;> exact .bool _, h.2, ⟨_, rfl⟩⟩
    · exact h.elim

theorem nilKind_of {t : TypeId} {d : TypeDesc} {k : Nat} {n u : Value} (ht : P.underlying t = some d) (hd : nilOf d = some (k, n)) (hu : kindV k u) : NilKind P t u n := by
  cases d <;> simp only [nilOf, Option.some.injEq, Prod.mk.injEq, reduceCtorEq] at hd
  · obtain ⟨rfl, rfl⟩ := hd
    obtain ⟨p, rfl⟩ := hu
    exact .ptr _ ht p
  · obtain ⟨rfl, rfl⟩ := hd
    obtain ⟨p, i, j, rfl⟩ := hu
    exact .slice _ ht p i j
  · obtain ⟨rfl, rfl⟩ := hd
    obtain ⟨p, rfl⟩ := hu
    exact .map _ _ ht p
  · obtain ⟨rfl, rfl⟩ := hd
    rcases hu with ⟨f, c, rfl⟩ | rfl
    · exact .fn _ _ _ ht f _ _
    · exact .nilfn _ _ _ ht

theorem nilC_of {d : TypeDesc} {k : Nat} {n : Value} {y : Operand} (hd : nilOf d = some (k, n)) (hy : isNilC k y = true) : a.eval y = n := by
  unfold isNilC at hy
  split at hy <;> simp only [beq_iff_eq, Bool.false_eq_true] at hy <;> subst hy <;> cases d <;> simp only [nilOf, Option.some.injEq, Prod.mk.injEq, reduceCtorEq] at hd <;> first
    | (obtain ⟨_, rfl⟩ := hd; rfl)
    | (obtain ⟨h, _⟩ := hd; cases h)

theorem sound_nileq {op : BinOp} (hop : op = .eql ∨ op = .neq) {t ty : TypeId} {x y : Operand} (hs : SimA s a w M) (ho : o.op = .binOp op t x y ty) {td : TypeDesc} (ht : P.underlying t = some td) {k : Nat} {n : Value} (hk : nilOf td = some (k, n)) {z : Operand}
    (hz : (z = x ∧ isNilC k y = true) ∨ (z = y ∧ isNilC k x = true))
    (h : run s o.dst K (.nileq k (op == .neq) (opd z))) : Good P s o a w M K := by
  obtain ⟨d, hr, hK, hkv⟩ := nileq_rep hs h
  have hnk := nilKind_of ht hk hkv
  rcases hz with ⟨rfl, hy⟩ | ⟨rfl, hx⟩
  · exact good_same hs (execOp_bin ho rfl (nilC_of hk hy) (nil_guard hnk).1 (run_nileq hop hnk).1) hr hK
  · exact good_same hs (execOp_bin ho (nilC_of hk hx) rfl (nil_guard hnk).2 (run_nileq hop hnk).2) hr hK

end Abs
end Go.Proofs.Ytokdeeagghhliaa

namespace Go.Proofs.Ytokdeeagghhliaa
namespace Abs
variable {P : Program} {s : St} {o : Oper} {a : Act} {w : World} {M : Ctx} {K : D → Chg → Prop}

theorem eqFields_rep {xs ys : List D} {us vs : Array Value} (hu : ∀ (i : Nat) (c : D) (v : Value), xs[i]? = some c → us[i]? = some v → Rep w M c v) (hv : ∀ (i : Nat) (c : D) (v : Value), ys[i]? = some c → vs[i]? = some v → Rep w M c v)
    (hul : us.size = xs.length) (hvl : vs.size = ys.length) (d : Nat) : ∀ (fs : List Field) (off : Nat) (ks : List Nat) (Q : Bool → Prop), flatK P fs off = some ks → eqAll ks (xs.drop off) (ys.drop off) Q →
      ∃ b, (Op.eqFields (d + 1) us vs fs).run P w = .ok b w ∧ Q b
  | [], off, ks, Q, hk, h => by
    simp only [flatK, Option.some.injEq] at hk
    subst hk
    generalize xs.drop off = xs' at h
    generalize ys.drop off = ys' at h
    cases xs' with
    | nil => cases ys' with
      | nil => exact ⟨true, by simp [Op.eqFields], h⟩
      | cons y ys => simp [eqAll] at h
    | cons x xs => simp [eqAll] at h
  | f :: fs, off, ks, Q, hk, h => by
    simp only [flatK] at hk
    split at hk
    case isFalse => cases hk
    rename_i hcond
    simp only [Bool.and_eq_true, bne_iff_ne, ne_eq, beq_iff_eq] at hcond
    have hparts : ∀ (x y : D), xs[off]? = some x → ys[off]? = some y → ∀ td, P.underlying f.type = some td → isAggD td = false →
        ∃ u v, us[off]? = some u ∧ vs[off]? = some v ∧ Rep w M x u ∧ Rep w M y v ∧ (part f.type us f.offset).run P w = .ok u w ∧ (part f.type vs f.offset).run P w = .ok v w := by
      intro x y hx hy td htd hagg
      have h1 : off < us.size := by rw [hul]; exact (List.getElem?_eq_some_iff.1 hx).1
      have h2 : off < vs.size := by rw [hvl]; exact (List.getElem?_eq_some_iff.1 hy).1
      refine ⟨us[off], vs[off], by simp [h1], by simp [h2], hu off x _ hx (by simp [h1]), hv off y _ hy (by simp [h2]), ?_, ?_⟩
      · simp [part, run_isAgg w htd, hagg, hcond.2, h1]
      · simp [part, run_isAgg w htd, hagg, hcond.2, h2]
    have hdrop : ∀ (l : List D) (x : D) (r : List D), l.drop off = x :: r → l[off]? = some x ∧ l.drop (off + 1) = r := by
      intro l x r hl
      refine ⟨?_, ?_⟩
      · have := congrArg (fun z => z[0]?) hl
        simpa [List.getElem?_drop] using this
      · have := congrArg (List.drop 1) hl
        simpa [List.drop_drop] using this
    have fin : ∀ (u v : Value) (b : Bool) (ks' : List Nat) (x y : D) (xs' ys' : List D), flatK P fs (off + 1) = some ks' → xs.drop off = x :: xs' → ys.drop off = y :: ys' →
        (part f.type us f.offset).run P w = .ok u w → (part f.type vs f.offset).run P w = .ok v w → (Op.equalIn (d + 1) f.type u v).run P w = .ok b w →
        eqAll ks' xs' ys' (fun c => Q (b && c)) → ∃ b, (Op.eqFields (d + 1) us vs (f :: fs)).run P w = .ok b w ∧ Q b := by
      intro u v b ks' x y xs' ys' hk' hx hy h1 h2 h3 h4
      rw [← (hdrop _ _ _ hx).2, ← (hdrop _ _ _ hy).2] at h4
      obtain ⟨c, hc, hQ⟩ := eqFields_rep hu hv hul hvl d fs (off + 1) ks' _ hk' h4
      refine ⟨b && c, ?_, hQ⟩
      cases b
      · simp [Op.eqFields, hcond.1, h1, h2, h3]
      · simp [Op.eqFields, hcond.1, h1, h2, h3, hc]
    split at hk
    · rename_i k ks' htd hks
      simp only [Option.some.injEq] at hk
      subst hk
      generalize hx : xs.drop off = xs' at h
      generalize hy : ys.drop off = ys' at h
      cases xs' with
      | nil => simp [eqAll] at h
      | cons x xs' =>
        cases ys' with
        | nil => cases x <;> simp [eqAll] at h
        | cons y ys' =>
          obtain ⟨u, v, _, _, hru, hrv, h1, h2⟩ := hparts x y (hdrop _ _ _ hx).1 (hdrop _ _ _ hy).1 _ htd rfl
          cases x <;> cases y <;> simp only [eqAll] at h
          obtain ⟨rfl, h⟩ := h
          cases hru with
          | int _ _ => cases hrv with
            | int _ _ => exact fin _ _ _ _ _ _ _ _ hks hx hy h1 h2 (run_equalIn_int w d f.type _ _ _ _ htd) h
    · rename_i ks' htd hks
      simp only [Option.some.injEq] at hk
      subst hk
      generalize hx : xs.drop off = xs' at h
      generalize hy : ys.drop off = ys' at h
      cases xs' with
      | nil => simp [eqAll] at h
      | cons x xs' =>
        cases ys' with
        | nil => cases x <;> simp [eqAll] at h
        | cons y ys' =>
          obtain ⟨u, v, _, _, hru, hrv, h1, h2⟩ := hparts x y (hdrop _ _ _ hx).1 (hdrop _ _ _ hy).1 _ htd rfl
          cases x <;> cases y <;> simp only [eqAll] at h
          cases hru with
          | bool _ => cases hrv with
            | bool _ => exact fin _ _ _ _ _ _ _ _ hks hx hy h1 h2 (run_equalIn_bool' w d f.type _ _ htd) h
    · rename_i ks' htd hks
      simp only [Option.some.injEq] at hk
      subst hk
      generalize hx : xs.drop off = xs' at h
      generalize hy : ys.drop off = ys' at h
      cases xs' with
      | nil => simp [eqAll] at h
      | cons x xs' =>
        cases ys' with
        | nil => cases x <;> simp [eqAll] at h
        | cons y ys' =>
          obtain ⟨u, v, _, _, hru, hrv, h1, h2⟩ := hparts x y (hdrop _ _ _ hx).1 (hdrop _ _ _ hy).1 _ htd rfl
          cases x <;> cases y <;> simp only [eqAll] at h
          cases hru with
          | str _ => cases hrv with
            | str _ => exact fin _ _ _ _ _ _ _ _ hks hx hy h1 h2 (run_equalIn_string w d f.type _ _ htd) h
    · cases hk

theorem sound_eqs {op : BinOp} (hop : op = .eql ∨ op = .neq) {t ty : TypeId} {x y : Operand} {fs : Array Field} {ks : List Nat} (hs : SimA s a w M) (ho : o.op = .binOp op t x y ty) (ht : P.underlying t = some (.struct fs))
    (hk : flatK P fs.toList 0 = some ks) (hst : P.stoodInHeld t = false) (hg : P.eqGuardType P.depth t = false) (h : run s o.dst K (.eqs (op == .neq) ks (opd x) (opd y))) : Good P s o a w M K := by
  simp only [run] at h
  have hx := val_rep hs x
  have hy := val_rep hs y
  split at h
  · rename_i xs ys hv hv2
    rw [hv] at hx
    rw [hv2] at hy
    generalize hve : a.eval x = u at hx
    generalize hve2 : a.eval y = u2 at hy
    cases hx with
    | agg _ us hul hur =>
      cases hy with
      | agg _ vs hvl hvr =>
        have hfs : P.fieldsOf t = fs := by simp [Program.fieldsOf, ht]
        obtain ⟨b, hb, hK⟩ := eqFields_rep (P := P) (M := M) hur hvr hul hvl 9998 fs.toList 0 ks _ hk (by simpa using h)
        have heq : (Op.equalIn 10000 t (.agg us) (.agg vs)).run P w = .ok b w := by
          rw [run_equalIn_struct w 9999 t us vs (by rw [hfs]; exact ht) hst, hfs]
          exact hb
        refine good_same hs (execOp_bin ho hve hve2 (run_eqGuard_agg w op t x y us vs hg) ?_) (.bool _) hK
        rcases hop with rfl | rfl
        · rw [run_eql_struct, heq]; cases b <;> rfl
        · rw [run_neq_struct, heq]; cases b <;> rfl
  · exact h.elim

end Abs
end Go.Proofs.Ytokdeeagghhliaa

namespace Go.Proofs.Ytokdeeagghhliaa
namespace Abs
variable {P : Program} {s : St} {o : Oper} {a : Act} {w : World} {M : Ctx} {K : D → Chg → Prop}

/-- the bounds of a slice expression, as the model computes them -/
theorem bounds_run (hs : SimA s a w M) {lo hi : Option Operand} {isSlice : Bool} {len cap : Nat} (hcap : len ≤ cap) {Q : Nat → Nat → Prop} (h : bounds ((lo.map opd).map s.val) ((hi.map opd).map s.val) len Q) :
    ∃ l r, l ≤ r ∧ r ≤ len ∧ (Instr.sliceBounds isSlice len cap (lo.map a.eval) (hi.map a.eval) none).run P w = .ok (l, r, cap) w ∧ Q l r := by
  have one : ∀ (x : Operand) (k : IntKind) (n : Int), s.val (opd x) = .int k n → a.eval x = .int k n := fun x k n hx => by
    have h := val_rep hs x
    rw [hx] at h
    generalize a.eval x = v at h ⊢
    cases h
    rfl
  have bd : ∀ (k : IntKind) (n : Int) (y : Nat) (code : BoundsCode), 0 ≤ n → n ≤ y → (Instr.sliceBound (.int k n) y code).run P w = .ok n.toNat w := fun k n y code h0 h1 => by
    simp [Instr.sliceBound, asIntOf, h0, h1]
  cases lo with
  | none =>
    cases hi with
    | none => exact ⟨0, len, Nat.zero_le _, Nat.le_refl _, by simp [Instr.sliceBounds], h⟩
    | some y =>
      simp only [Option.map_none, Option.map_some] at h ⊢
      unfold bounds at h
      split at h <;> first | (rename_i h1 h2; cases h1; done) | (rename_i h1 h2; cases h2; done) | (rename_i h1 h2 h3; cases h2; done) | skip
      · rename_i k n h1 h2
        injection h2 with h2
        obtain ⟨h0, hle, hQ⟩ := h
        exact ⟨0, n.toNat, Nat.zero_le _, by omega, by simp [Instr.sliceBounds, one y k n h2, bd k n cap _ h0 (by omega)], hQ⟩
      · exact h.elim
  | some x =>
    cases hi with
    | none =>
      simp only [Option.map_none, Option.map_some] at h ⊢
      unfold bounds at h
      split at h <;> first | (rename_i h1 h2; cases h1; done) | (rename_i h1 h2; cases h2; done) | skip
      · rename_i k n h1 h2
        injection h1 with h1
        obtain ⟨h0, hle, hQ⟩ := h
        exact ⟨n.toNat, len, by omega, Nat.le_refl _, by simp [Instr.sliceBounds, one x k n h1, bd k n len _ h0 (by omega)], hQ⟩
      · exact h.elim
    | some y =>
      simp only [Option.map_some] at h ⊢
      unfold bounds at h
      split at h <;> first | (rename_i h1 h2; cases h1; done) | (rename_i h1 h2; cases h2; done) | skip
      · rename_i k n k' m h1 h2
        injection h1 with h1
        injection h2 with h2
        obtain ⟨h0, hle, hle2, hQ⟩ := h
        exact ⟨n.toNat, m.toNat, by omega, by omega, by simp [Instr.sliceBounds, one x k n h1, one y k' m h2, bd k' m cap _ (by omega) (by omega), bd k n m.toNat _ h0 (by omega)], hQ⟩
      · exact h.elim

theorem sound_slice {t e : TypeId} {x : Operand} {lo hi : Option Operand} {i : TypeInfo} (hs : SimA s a w M) (ho : o.op = .slice t x lo hi none) (ht : P.underlying t = some (.slice e)) (hi' : P.info? e = some i)
    (h : run s o.dst K (.slice i.size (opd x) (lo.map opd) (hi.map opd))) : Good P s o a w M K := by
  simp only [run] at h
  have hx := val_rep hs x
  -- the run, once the bounds are known
  have go : ∀ (p : Option Addr) (len cap l r : Nat), a.eval x = .slice p len cap → (Instr.sliceBounds true len cap (lo.map a.eval) (hi.map a.eval) none).run P w = .ok (l, r, cap) w →
      (execOp a.eval o).run P w = .ok (.value (.slice (if cap = l then p else p.map (·.add (l * i.size))) (r - l) (cap - l))) w := by
    intro p len cap l r hv hb
    simp [execOp, ho, hv, Instr.sliceAt, run_underlying ht, Instr.slice, hb, run_sizeOf w hi']
  split at h
  · rename_i l hv
    rw [hv] at hx
    obtain ⟨hcells, hb⟩ := h
    generalize hve : a.eval x = v at hx
    cases hx with
    | lst0 p c =>
      obtain ⟨j, r, h1, h2, hrun, hK⟩ := bounds_run hs (P := P) (isSlice := true) (cap := c) (Nat.zero_le _) hb
      have hj : j = 0 := by simp at h2; omega
      have hr : r = 0 := by simp at h2; omega
      subst hj; subst hr
      have := go p 0 c 0 0 hve hrun
      refine good_same hs this ?_ hK
      simp
      split
      · exact .lst0 _ _
      · exact .lst0 _ _
    | lst _ ad c sz u hcc hsp hbk hlive hsz hcell hr =>
      obtain ⟨j, r, h1, h2, hrun, hK⟩ := bounds_run hs (P := P) (isSlice := true) hcc hb
      have hrun' := go (some ad) l.length c j r hve hrun
      refine good_same hs hrun' ?_ hK
      by_cases hjr : j = r
      · subst hjr
        simp only [Nat.sub_self, List.take_zero]
        exact .lst0 _ _
      · have hjc : ¬ c = j := by omega
        rw [if_neg hjc]
        have hlen : ((l.drop j).take (r - j)).length = r - j := by simp; omega
        have hmem : ∃ d, d ∈ l := ⟨l[j]'(by omega), List.getElem_mem _⟩
        have hszi : sz = i.size := by obtain ⟨d, hd⟩ := hmem; rw [← hsz d hd, hcells d hd]
        subst hszi
        have := Rep.lst (w := w) (M := M) ((l.drop j).take (r - j)) (ad.add (j * i.size)) (c - j) i.size (fun i' j' => u (j + i') j') (by rw [hlen]; omega) (by unfold Addr.add; split <;> simp_all)
          (by rw [Addr.block_add]; exact hbk) (by rw [Addr.block_add]; exact hlive) (fun d hd => hsz d (List.mem_of_mem_drop (List.mem_of_mem_take hd))) (fun i' d hd j' e' he' => by
            rw [List.getElem?_take] at hd
            split at hd
            · rw [List.getElem?_drop] at hd
              rw [Addr.add_add, ← Nat.add_assoc, ← Nat.add_mul]
              exact hcell _ d hd j' e' he'
            · cases hd) (fun i' d hd j' e' he' => by
            rw [List.getElem?_take] at hd
            split at hd
            · rw [List.getElem?_drop] at hd
              exact hr _ d hd j' e' he'
            · cases hd)
        rw [hlen] at this
        exact this
  · rename_i sz' b ver off len hv
    rw [hv] at hx
    obtain ⟨rfl, hat⟩ := h
    obtain ⟨cs, hb, hbd⟩ := at_spec hat
    have hM1 := hs.sim.ver b
    have hM2 := hs.sim.con b
    rw [hb] at hM1 hM2
    generalize hve : a.eval x = v at hx
    cases hx with
    | ref _ _ _ _ _ _ hle hp hv' =>
      have hp' := hp hM1
      -- an empty slice without room
      have empty : ∀ p, v = .slice p 0 0 → len = 0 → Good P s o a w M K := by
        intro p hvp hl0
        subst hl0
        subst hvp
        obtain ⟨j, r, h1, h2, hrun, hK⟩ := bounds_run hs (P := P) (isSlice := true) (Nat.le_refl 0) hbd
        have hj : j = 0 := by omega
        have hr : r = 0 := by omega
        subst hj; subst hr
        have hrun' := go p 0 0 0 0 hve hrun
        refine good_same hs hrun' ?_ hK
        simp
        exact .ref _ _ _ _ _ _ hle (fun hver => by
          have := hp hver
          rcases hM2 with ⟨a', hloc, _⟩ | ⟨c, base, C, e', hloc, _⟩
          · rw [hloc] at this ⊢; exact this
          · rw [hloc] at this ⊢; exact .inl ⟨rfl, _, rfl⟩) ⟨_, _, _, rfl⟩
      rcases hM2 with ⟨a', hloc, _⟩ | ⟨c, base, C, e', hloc, hc, hsz, hrep⟩
      · rw [hloc] at hp'
        exact empty a' hp'.2.2 hp'.2.1
      · rw [hloc] at hp'
        rcases hp' with ⟨h3, p, h4⟩ | ⟨cap, rfl, hcap, hroom⟩
        · exact empty p h4 h3
        · obtain ⟨j, r, h1, h2, hrun, hK⟩ := bounds_run hs (P := P) (isSlice := true) hcap hbd
          have hrun' := go _ len cap j r hve hrun
          refine good_same hs hrun' ?_ hK
          refine .ref _ _ _ _ _ _ hle (fun _ => ?_) ⟨_, _, _, rfl⟩
          rw [hloc]
          by_cases hcj : cap = j
          · left
            have : r = j := by omega
            subst this; subst hcj
            simp
          · right
            rw [if_neg hcj]
            refine ⟨cap - j, by simp [Addr.lit_add, Nat.add_assoc], by omega, fun C' e1 fr' hc' => ?_⟩
            have := hroom C' e1 fr' hc'
            have h5 : (cap - j) * i.size + j * i.size = cap * i.size := by rw [← Nat.add_mul]; congr 1; omega
            omega
  · rename_i hv
    rw [hv] at hx
    generalize hve : a.eval x = v at hx
    cases hx with
    | nils =>
      obtain ⟨j, r, h1, h2, hrun, hK⟩ := bounds_run hs (P := P) (isSlice := true) (Nat.le_refl 0) h
      have hj : j = 0 := by omega
      have hr : r = 0 := by omega
      subst hj; subst hr
      have := go none 0 0 0 0 hve hrun
      simp at this
      exact good_same hs this (.emp _) hK
  · rename_i hv
    rw [hv] at hx
    generalize hve : a.eval x = v at hx
    cases hx with
    | emp p =>
      obtain ⟨j, r, h1, h2, hrun, hK⟩ := bounds_run hs (P := P) (isSlice := true) (Nat.le_refl 0) h
      have hj : j = 0 := by omega
      have hr : r = 0 := by omega
      subst hj; subst hr
      have := go p 0 0 0 0 hve hrun
      simp at this
      exact good_same hs this (.emp _) hK
  · exact h.elim

def isSl : D → Bool
  | .lst _ | .nils | .emp | .ref .. => true
  | _ => false

/-- the form of what stands for a slice -/
theorem rep_slice_form {d : D} {v : Value} (h : Rep w M d v) (hd : isSl d = true) : ∃ p l c, v = .slice p l c := by
  cases h <;> first | (simp [isSl] at hd; done) | (rename_i h1; exact h1) | exact ⟨_, _, _, rfl⟩

theorem sound_slicez {t e : TypeId} {x : Operand} {k k' : IntKind} {i : TypeInfo} (hs : SimA s a w M) (ho : o.op = .slice t x none (some (.const (.int k 0))) (some (.const (.int k' 0)))) (ht : P.underlying t = some (.slice e)) (hi : P.info? e = some i)
    (h : run s o.dst K (.slicez (opd x))) : Good P s o a w M K := by
  simp only [run] at h
  have hx := val_rep hs x
  have hK : K .emp [] ∧ isSl (s.val (opd x)) = true := by
    split at h <;> first | (rename_i hv; rw [hv]; exact ⟨h, rfl⟩) | exact h.elim
  obtain ⟨p, l, c, hve⟩ := rep_slice_form hx hK.2
  have he : ∀ v, a.eval (.const v) = v := fun _ => rfl
  refine good_same hs (v := .slice p 0 0) ?_ (.emp _) hK.1
  simp [execOp, ho, hve, Instr.sliceAt, run_underlying ht, Instr.slice, Instr.sliceBounds, Instr.sliceBound, asIntOf, he, run_sizeOf w hi]

theorem sound_slicea {t e : TypeId} {n : Nat} {x : Operand} {lo hi : Option Operand} {i : TypeInfo} (hs : SimA s a w M) (ho : o.op = .slice t x lo hi none) (ht : P.underlying t = some (.array n e)) (hi' : P.info? e = some i)
    (h : run s o.dst K (.slicea n i.size (opd x) (lo.map opd) (hi.map opd))) : Good P s o a w M K := by
  simp only [run] at h
  have hx := val_rep hs x
  split at h
  · rename_i b ver off hv
    rw [hv] at hx
    obtain ⟨cs, hb, hfit, hne, hbd⟩ := at_spec h
    obtain ⟨hver, c, base, C, e', hl, hc, hsz, hrep⟩ := at_mem hs hb hne
    have hve := rep_ptr hx hver hl
    obtain ⟨j, r, h1, h2, hrun, hK⟩ := bounds_run hs (P := P) (isSlice := false) (Nat.le_refl n) hbd
    have hrun' : (execOp a.eval o).run P w = .ok (.value (.slice (some (if n = j then ⟨c, base + off, none⟩ else (⟨c, base + off, none⟩ : Addr).add (j * i.size))) (r - j) (n - j))) w := by
      simp [execOp, ho, hve, Instr.sliceAt, run_underlying ht, Instr.sureAddr, hrun, run_sizeOf w hi']
    refine good_same hs hrun' (.ref _ _ _ _ _ _ (Nat.le_of_eq hver.symm) (fun _ => ?_) ⟨_, _, _, rfl⟩) hK
    rw [hl]
    by_cases hcj : n = j
    · left
      have : r = j := by omega
      subst this; subst hcj
      simp
    · right
      rw [if_neg hcj]
      refine ⟨n - j, by simp [Addr.lit_add, Nat.add_assoc], by omega, fun C' e1 fr' hc' => ?_⟩
      rw [hc] at hc'
      injection hc' with hc'; injection hc' with hc' _ _
      rw [← hc']
      have h5 : (n - j) * i.size + j * i.size = n * i.size := by rw [← Nat.add_mul]; congr 1; omega
      omega
  · exact h.elim

theorem sound_len {x : Operand} {t e : TypeId} {c : Call} (hs : SimA s a w M) (ho : o.op = .call c) (hc : c.callee = .builtin .len) (hx0 : c.args[0]? = some x) (ht0 : c.argTypes[0]? = some t) (ht : P.underlying t = some (.slice e))
    (h : run s o.dst K (.len (opd x))) : Good P s o a w M K := by
  have hx := val_rep hs x
  have hrun : ∀ p l cp, a.eval x = .slice p l cp → (execOp a.eval o).run P w = .ok (.value (.int .i64 l)) w := fun p l cp hv => by
    simp [execOp, ho, resolve, hc, invoke, builtin, Builtin.len_, hx0, ht0, run_underlying ht, hv, goInt]
  simp only [run] at h
  split at h
  · rename_i hv
    rw [hv] at hx
    generalize hve : a.eval x = v at hx
    cases hx with
    | nils => exact good_same hs (hrun _ _ _ hve) (.int _ _) h
  · rename_i hv
    rw [hv] at hx
    generalize hve : a.eval x = v at hx
    cases hx with
    | emp p => exact good_same hs (hrun _ _ _ hve) (.int _ _) h
  · rename_i l hv
    rw [hv] at hx
    generalize hve : a.eval x = v at hx
    cases hx with
    | lst0 p c => exact good_same hs (hrun _ _ _ hve) (.int _ _) h
    | lst _ ad c sz u hcc hsp hb hlive hsz hcell hr => exact good_same hs (hrun _ _ _ hve) (.int _ _) h
  · rename_i sz b ver off len hv
    rw [hv] at hx
    obtain ⟨cs, hb, hK⟩ := at_spec h
    have hM1 := hs.sim.ver b
    have hM2 := hs.sim.con b
    rw [hb] at hM1 hM2
    generalize hve : a.eval x = v at hx
    cases hx with
    | ref _ _ _ _ _ _ hle hp hv' =>
      have hp' := hp hM1
      rcases hM2 with ⟨a', hloc, _⟩ | ⟨c, base, C, e', hloc, _⟩
      · rw [hloc] at hp'
        obtain ⟨_, h2, h3⟩ := hp'
        subst h3; subst h2
        exact good_same hs (hrun _ _ _ hve) (.int _ _) hK
      · rw [hloc] at hp'
        rcases hp' with ⟨h2, p, h3⟩ | ⟨cap, h3, _⟩
        · subst h3; subst h2
          exact good_same hs (hrun _ _ _ hve) (.int _ _) hK
        · subst h3
          exact good_same hs (hrun _ _ _ hve) (.int _ _) hK
  · exact h.elim

theorem sound_slen {x : Operand} {t : TypeId} {c : Call} (hs : SimA s a w M) (ho : o.op = .call c) (hc : c.callee = .builtin .len) (hx0 : c.args[0]? = some x) (ht0 : c.argTypes[0]? = some t) (ht : P.underlying t = some .string)
    (h : run s o.dst K (.slen (opd x))) : Good P s o a w M K := by
  have hx := val_rep hs x
  simp only [run] at h
  split at h
  · rename_i u hv
    rw [hv] at hx
    generalize hve : a.eval x = v at hx
    cases hx with
    | str _ =>
      exact good_same hs (v := .int .i64 u.size) (by simp [execOp, ho, resolve, hc, invoke, builtin, Builtin.len_, hx0, ht0, run_underlying ht, hve, goInt]) (.int _ _) h
  · exact h.elim

theorem ints_rep {xs : List Operand} (hs : SimA s a w M) : intsD (xs.map fun x => s.val (opd x)) = true → ∃ ns : List Int, (xs.map fun x => s.val (opd x)) = ns.map (D.int .i64) ∧ xs.map a.eval = ns.map (Value.int .i64) := by
  induction xs with
  | nil => exact fun _ => ⟨[], rfl, rfl⟩
  | cons x xs ih =>
    intro h
    simp only [List.map_cons] at h
    have hx := val_rep hs x
    unfold intsD at h
    split at h
    · rename_i h1; cases h1
    · rename_i n r h1
      injection h1 with h1 h2
      subst h2
      obtain ⟨ns, h3, h4⟩ := ih h
      rw [h1] at hx
      generalize hve : a.eval x = v at hx
      cases hx with
      | int _ _ => exact ⟨n :: ns, by simp [h1, h3], by simp [hve, h4]⟩
    · cases h

theorem fold_min (mx : Bool) : ∀ (ns : List Int) (n : Int), ∃ m, (ns.map (D.int .i64)).foldl (minD mx) (.int .i64 n) = .int .i64 m ∧
    ((ns.map (Value.int .i64)).foldlM (if mx then Builtin.max2 else Builtin.min2) (.int .i64 n)).run P w = .ok (.int .i64 m) w
  | [], n => ⟨n, rfl, by simp⟩
  | m :: ns, n => by
    have step : ((if mx then Builtin.max2 else Builtin.min2) (.int .i64 n) (.int .i64 m)).run P w = .ok (.int .i64 (if mx then (if m > n then m else n) else (if m < n then m else n))) w := by
      cases mx <;> simp [Builtin.max2, Builtin.min2]
    obtain ⟨r, h1, h2⟩ := fold_min mx ns (if mx then (if m > n then m else n) else (if m < n then m else n))
    exact ⟨r, by simpa [minD] using h1, by simp only [List.map_cons, List.foldlM_cons, Sem.run_bind, step, Result.andThen_ok, h2]⟩

theorem sound_minmax {mx : Bool} {c : Call} (hs : SimA s a w M) (ho : o.op = .call c) (hc : c.callee = .builtin (if mx then .max else .min))
    (h : run s o.dst K (.minmax mx (c.args.toList.map opd))) : Good P s o a w M K := by
  simp only [run] at h
  split at h
  · rename_i d ds heq
    have hints : intsD (c.args.toList.map fun x => s.val (opd x)) = true := by
      have : (c.args.toList.map fun x => s.val (opd x)) = d :: ds := by rw [← heq, List.map_map]; rfl
      rw [this]; exact h.1
    obtain ⟨ns, h1, h2⟩ := ints_rep hs hints
    have h3 : d :: ds = ns.map (D.int .i64) := by rw [← heq, List.map_map]; exact h1
    cases ns with
    | nil => cases h3
    | cons n ns =>
      injection h3 with h3 h4
      subst h3; subst h4
      obtain ⟨m, h5, h6⟩ := fold_min (P := P) (w := w) mx ns n
      rw [h5] at h
      have hargs : (c.args.map a.eval).toList = Value.int .i64 n :: ns.map (Value.int .i64) := by simpa using h2
      refine good_same hs (v := .int .i64 m) ?_ (.int _ _) h.2.2
      cases mx
      · simp only [execOp, ho, resolve, hc, Sem.run_bind, Sem.run_pure, Result.andThen_ok, invoke, builtin, Bool.false_eq_true, if_false, Builtin.min_]
        rw [hargs]
        simp only [Bool.false_eq_true, if_false] at h6
        simp [h6]
      · simp only [execOp, ho, resolve, hc, Sem.run_bind, Sem.run_pure, Result.andThen_ok, invoke, builtin, if_true, Builtin.max_]
        rw [hargs]
        simp only [if_true] at h6
        simp [h6]
  · exact h.elim

end Abs
end Go.Proofs.Ytokdeeagghhliaa
