/- The abstract values of the proofs: Go's values without addresses, and how they stand for the model's values in a world. -/
import Derived.WalkKit
import Derived.Laws.MakeOwn
namespace Go.Proofs.Ytfojedaccfenfab
namespace Abs

inductive D where
  | top
  | abool
  | bool (b : Bool)
  | int (k : IntKind) (n : Int)
  | str (s : ByteArray)
  | agg (cs : List D)
  | tup (ds : List D)
  | nils
  | emp
  | lst (l : List D)
  | ref (sz b ver off len : Nat)
  | adr (cs : List D)
  | ptr (b ver off : Nat)
  | nilp
  | fn (f : FuncId) (caps : List D)
  | nilfn
  | map (b ver : Nat)
  | nilmap
  | iface (t : TypeId) (d : D)
  | nilif
  deriving Inhabited

def D.cells : D → List D
  | .agg cs => cs
  | d => [d]

/-- one cell, of which something is known -/
def D.one : D → Bool
  | .top => false
  | .agg _ => false
  | .tup _ => false
  | _ => true

/-- where a block of the abstract heap lies -/
inductive Loc where
  | nil (a : Option Addr)
  | mem (blk base : Nat)

structure Ent where
  ver : Nat
  loc : Option Loc
  opq : Bool := false

abbrev Ctx := Nat → Ent
def hole : Ent := ⟨0, none, false⟩
/-- a block of the world that an abstract block stands for; one that may be written -/
def Occ (M : Ctx) (c : Nat) : Prop := ∃ b base, (M b).loc = some (.mem c base)
def Live (M : Ctx) (c : Nat) : Prop := ∃ b base, (M b).loc = some (.mem c base) ∧ (M b).opq = false
theorem Live.occ {M : Ctx} {c : Nat} (h : Live M c) : Occ M c := let ⟨b, base, h, _⟩ := h; ⟨b, base, h⟩

def RefOk (w : World) (loc : Option Loc) (sz off len : Nat) (v : Value) : Prop :=
  match loc with
  | none => True
  | some (.nil a) => off = 0 ∧ len = 0 ∧ v = .slice a 0 0
  | some (.mem c base) => (len = 0 ∧ ∃ a, v = .slice a 0 0) ∨ ∃ cap, v = .slice (some ⟨c, base + off, none⟩) len cap ∧ len ≤ cap ∧
      ∀ C e fr, w.heap[c]? = some (.cells C e fr) → base + off + cap * sz ≤ C.size

def PtrOk (loc : Option Loc) (off : Nat) (v : Value) : Prop :=
  match loc with
  | some (.mem c base) => v = .pointer (some ⟨c, base + off, none⟩)
  | _ => True

def MapOk (loc : Option Loc) (v : Value) : Prop :=
  match loc with
  | some (.mem c _) => v = .map (some c)
  | _ => True

inductive Rep (w : World) (M : Ctx) : D → Value → Prop
  | top (v : Value) : Rep w M .top v
  | abool (b : Bool) : Rep w M .abool (.bool b)
  | bool (b : Bool) : Rep w M (.bool b) (.bool b)
  | int (k : IntKind) (n : Int) : Rep w M (.int k n) (.int k n)
  | str (s : ByteArray) : Rep w M (.str s) (.string s)
  | agg (cs : List D) (vs : Array Value) (hl : vs.size = cs.length) (h : ∀ (i : Nat) (c : D) (v : Value), cs[i]? = some c → vs[i]? = some v → Rep w M c v) : Rep w M (.agg cs) (.agg vs)
  | tup (cs : List D) (vs : Array Value) (hl : vs.size = cs.length) (h : ∀ (i : Nat) (c : D) (v : Value), cs[i]? = some c → vs[i]? = some v → Rep w M c v) : Rep w M (.tup cs) (.tuple vs)
  | nils : Rep w M .nils (.slice none 0 0)
  | emp (a : Option Addr) : Rep w M .emp (.slice a 0 0)
  | lst0 (a : Option Addr) (c : Nat) : Rep w M (.lst []) (.slice a 0 c)
  | lst (l : List D) (ad : Addr) (c sz : Nat) (u : Nat → Nat → Value) (hc : l.length ≤ c) (hs : ad.spot = none) (hb : ad.block < w.heap.size) (hlive : ¬ Occ M ad.block)
      (hsz : ∀ d ∈ l, d.cells.length = sz)
      (hcell : ∀ (i : Nat) (d : D), l[i]? = some d → ∀ (j : Nat) (e : D), d.cells[j]? = some e → w.cell? (ad.add (i * sz + j)) = some (u i j))
      (hr : ∀ (i : Nat) (d : D), l[i]? = some d → ∀ (j : Nat) (e : D), d.cells[j]? = some e → Rep w M e (u i j)) : Rep w M (.lst l) (.slice (some ad) l.length c)
  | ref (sz b ver off len : Nat) (v : Value) (hv : ver ≤ (M b).ver) (h : (M b).ver = ver → RefOk w (M b).loc sz off len v) (h1 : ∃ a n c, v = .slice a n c) : Rep w M (.ref sz b ver off len) v
  | adr (cs : List D) (ad : Addr) (u : Nat → Value) (hs : ad.spot = none) (hb : ad.block < w.heap.size) (hlive : ¬ Occ M ad.block)
      (hcell : ∀ (j : Nat) (e : D), cs[j]? = some e → w.cell? (ad.add j) = some (u j)) (hr : ∀ (j : Nat) (e : D), cs[j]? = some e → Rep w M e (u j)) : Rep w M (.adr cs) (.pointer (some ad))
  | ptr (b ver off : Nat) (v : Value) (hv : ver ≤ (M b).ver) (h : (M b).ver = ver → PtrOk (M b).loc off v) (h1 : ∃ a, v = .pointer a) : Rep w M (.ptr b ver off) v
  | nilp : Rep w M .nilp (.pointer none)
  | fn (f : FuncId) (cs : List D) (vs : Array Value) (hl : vs.size = cs.length) (h : ∀ (i : Nat) (c : D) (v : Value), cs[i]? = some c → vs[i]? = some v → Rep w M c v) : Rep w M (.fn f cs) (.func (.func f) #[] vs)
  | nilfn : Rep w M .nilfn .nilFunc
  | map (b ver : Nat) (v : Value) (hv : ver ≤ (M b).ver) (h : (M b).ver = ver → MapOk (M b).loc v) (h1 : ∃ a, v = .map a) : Rep w M (.map b ver) v
  | nilmap : Rep w M .nilmap (.map none)
  | iface (t : TypeId) (d : D) (v : Value) (h : Rep w M d v) : Rep w M (.iface t d) (.iface t v)
  | nilif : Rep w M .nilif .nilIface

/-- what no operation changes -/
structure Same (w w' : World) : Prop where
  os : w'.os = w.os
  tape : w'.tape = w.tape
  output : w'.output = w.output
theorem Same.refl (w : World) : Same w w := ⟨rfl, rfl, rfl⟩
theorem Same.trans {a b c : World} (h : Same a b) (k : Same b c) : Same a c := ⟨k.os.trans h.os, k.tape.trans h.tape, k.output.trans h.output⟩

/-- one operation's change of world and context -/
structure Step (w : World) (M : Ctx) (w' : World) (M' : Ctx) : Prop where
  size : w.heap.size ≤ w'.heap.size
  ver : ∀ b, (M b).ver ≤ (M' b).ver
  loc : ∀ b, (M' b).ver = (M b).ver → (M' b).loc = none ∨ (M' b).loc = (M b).loc
  occ : ∀ c, c < w.heap.size → Occ M' c → Occ M c
  live : ∀ c, c < w.heap.size → Live M' c → Live M c
  imm : ∀ c, c < w.heap.size → ¬ Live M c → w'.heap[c]? = w.heap[c]?
  shape : ∀ c, c < w.heap.size → ∀ C' e' fr', w'.heap[c]? = some (.cells C' e' fr') → ∃ C e fr, w.heap[c]? = some (.cells C e fr) ∧ C.size = C'.size
  known : ∀ b c base, (M b).loc = some (.mem c base) → c < w.heap.size
  opq : ∀ b, (M b).opq = true → M' b = M b
  same : Same w w'

theorem cell_imm {w w' : World} {a : Addr} (h : w'.heap[a.block]? = w.heap[a.block]?) : w'.cell? a = w.cell? a := by simp [World.cell?, h]

theorem Addr.block_add (a : Addr) (n : Nat) : (a.add n).block = a.block := by unfold Addr.add; split <;> rfl

theorem Rep.step {w w' : World} {M M' : Ctx} (hs : Step w M w' M') {d : D} {v : Value} (h : Rep w M d v) : Rep w' M' d v := by
  induction h with
  | top v => exact .top v
  | abool b => exact .abool b
  | bool b => exact .bool b
  | int k n => exact .int k n
  | str s => exact .str s
  | agg cs vs hl _ ih => exact .agg cs vs hl ih
  | tup cs vs hl _ ih => exact .tup cs vs hl ih
  | nils => exact .nils
  | emp a => exact .emp a
  | lst0 a c => exact .lst0 a c
  | lst l ad c sz u hc hsp hb hlive hsz hcell _ ih =>
    refine .lst l ad c sz u hc hsp (Nat.lt_of_lt_of_le hb hs.size) (fun hl => hlive (hs.occ _ hb hl)) hsz (fun i d hd j e he => ?_) ih
    have hi : w'.cell? (ad.add (i * sz + j)) = w.cell? (ad.add (i * sz + j)) := cell_imm (by rw [Addr.block_add]; exact hs.imm _ hb (fun hl => hlive hl.occ))
    exact hi.trans (hcell i d hd j e he)
  | ref sz b ver off len v hv h h1 =>
    refine .ref sz b ver off len v (Nat.le_trans hv (hs.ver b)) (fun e => ?_) h1
    have hm : (M b).ver = ver := Nat.le_antisymm (e ▸ hs.ver b) hv
    have h' := h hm
    rcases hs.loc b (e.trans hm.symm) with hn | hn
    · rw [hn]; trivial
    · rw [hn]
      cases hl : (M b).loc with
      | none => trivial
      | some x =>
        rw [hl] at h'
        cases x with
        | nil a => exact h'
        | mem c base =>
          rcases h' with h' | ⟨cap, hv', hle, hsz⟩
          · exact .inl h'
          refine .inr ⟨cap, hv', hle, fun C' e' fr' hc => ?_⟩
          obtain ⟨C, e, fr, h1, h2⟩ := hs.shape c (hs.known b c base hl) C' e' fr' hc
          rw [← h2]
          exact hsz C e fr h1
  | adr cs ad u hsp hb hlive hcell _ ih =>
    refine .adr cs ad u hsp (Nat.lt_of_lt_of_le hb hs.size) (fun hl => hlive (hs.occ _ hb hl)) (fun j e he => ?_) ih
    have hi : w'.cell? (ad.add j) = w.cell? (ad.add j) := cell_imm (by rw [Addr.block_add]; exact hs.imm _ hb (fun hl => hlive hl.occ))
    exact hi.trans (hcell j e he)
  | ptr b ver off v hv h h1 =>
    refine .ptr b ver off v (Nat.le_trans hv (hs.ver b)) (fun e => ?_) h1
    have hm : (M b).ver = ver := Nat.le_antisymm (e ▸ hs.ver b) hv
    rcases hs.loc b (e.trans hm.symm) with hn | hn
    · rw [hn]; trivial
    · rw [hn]; exact h hm
  | nilp => exact .nilp
  | fn f cs vs hl _ ih => exact .fn f cs vs hl ih
  | nilfn => exact .nilfn
  | map b ver v hv h h1 =>
    refine .map b ver v (Nat.le_trans hv (hs.ver b)) (fun e => ?_) h1
    have hm : (M b).ver = ver := Nat.le_antisymm (e ▸ hs.ver b) hv
    rcases hs.loc b (e.trans hm.symm) with hn | hn
    · rw [hn]; trivial
    · rw [hn]; exact h hm
  | nilmap => exact .nilmap
  | iface t d v _ ih => exact .iface t d v ih
  | nilif => exact .nilif

/-! ### the heap -/
inductive Con where
  | none
  | veil
  | cells (cs : List D)
  | map (es : List (D × D))

def Con.isOpq : Con → Bool
  | .veil => true
  | _ => false

structure Blk where
  ver : Nat
  con : Con

instance : Inhabited Blk := ⟨⟨0, .none⟩⟩
abbrev Heap := Nat → Blk
def blk0 : Blk := ⟨0, .none⟩

def ConOk (w : World) (M : Ctx) (loc : Option Loc) : Con → Prop
  | .none => loc = none
  | .veil => ∀ c base, loc = some (.mem c base) → c < w.heap.size
  | .cells cs => (∃ a, loc = some (.nil a) ∧ cs = []) ∨
      ∃ c base C e, loc = some (.mem c base) ∧ w.heap[c]? = some (.cells C e (0, 0)) ∧ base + cs.length ≤ C.size ∧
        ∀ j d, cs[j]? = some d → ∃ v, C[base + j]? = some v ∧ Rep w M d v
  | .map es => ∃ c E clock, loc = some (.mem c 0) ∧ w.heap[c]? = some (.map E clock) ∧ E.size = es.length ∧
        (∀ x ∈ E.toList, x.born < clock) ∧ (E.toList.map (·.born)).Nodup ∧
        ∀ (j : Nat) (k d : D), es[j]? = some (k, d) → ∃ x : MapEntry, E[j]? = some x ∧ Rep w M k x.key ∧ Rep w M d x.val

structure Sim (w : World) (M : Ctx) (H : Heap) : Prop where
  ver : ∀ b, (M b).ver = (H b).ver
  con : ∀ b, ConOk w M (M b).loc (H b).con
  inj : ∀ b b' c base base', (M b).loc = some (.mem c base) → (M b').loc = some (.mem c base') → b = b'
  opq : ∀ b, (M b).opq = (H b).con.isOpq

theorem Sim.known {w : World} {M : Ctx} {H : Heap} (h : Sim w M H) : ∀ b c base, (M b).loc = some (.mem c base) → c < w.heap.size := by
  intro b c base hl
  have hc := h.con b
  rw [hl] at hc
  cases hcon : (H b).con with
  | none => rw [hcon] at hc; cases hc
  | veil => rw [hcon] at hc; exact hc c base rfl
  | cells cs =>
    rw [hcon] at hc
    rcases hc with ⟨a, h1, _⟩ | ⟨c', base', C, e, h1, h2, _⟩
    · cases h1
    · injection h1 with h1; injection h1 with h1 h3; subst h1
      exact (Array.getElem?_eq_some_iff.1 h2).1
  | map es =>
    rw [hcon] at hc
    obtain ⟨c', E, cl, h1, h2, _⟩ := hc
    injection h1 with h1; injection h1 with h1 h3; subst h1
    exact (Array.getElem?_eq_some_iff.1 h2).1

theorem ConOk.step {w w' : World} {M M' : Ctx} (hs : Step w M w' M') {loc : Option Loc} {con : Con} (h : ConOk w M loc con)
    (hsame : ∀ c base, loc = some (.mem c base) → w'.heap[c]? = w.heap[c]?) : ConOk w' M' loc con := by
  cases con with
  | none => exact h
  | veil => exact fun c base e => Nat.lt_of_lt_of_le (h c base e) hs.size
  | cells cs =>
    rcases h with h | ⟨c, base, C, e, h1, h2, h3, h4⟩
    · exact .inl h
    · exact .inr ⟨c, base, C, e, h1, (hsame c base h1).trans h2, h3, fun j d hd => let ⟨v, hv, hr⟩ := h4 j d hd; ⟨v, hv, hr.step hs⟩⟩
  | map es =>
    obtain ⟨c, E, cl, h1, h2, h3, h4, h5, h6⟩ := h
    exact ⟨c, E, cl, h1, (hsame c 0 h1).trans h2, h3, h4, h5, fun j k d hd => let ⟨x, hx, hk, hr⟩ := h6 j k d hd; ⟨x, hx, hk.step hs, hr.step hs⟩⟩

end Abs
end Go.Proofs.Ytfojedaccfenfab
