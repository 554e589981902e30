/- The operations of the abstract run, out of the model's operations, and what each does to an abstract state. -/
import Derived.Test.YtfojedaccfenfabA2
namespace Go.Proofs.Ytfojedaccfenfab
namespace Abs

inductive Opd where
  | tmp (t : Nat)
  | val (d : D)

def litC : Value → D
  | .bool b => .bool b
  | .int k n => .int k n
  | .string s => .str s
  | .slice none 0 0 => .nils
  | .pointer none => .nilp
  | .map none => .nilmap
  | .nilFunc => .nilfn
  | .nilIface => .nilif
  | _ => .top

def litD : Value → D
  | .agg cs => .agg (cs.toList.map litC)
  | v => litC v

def opd : Operand → Opd
  | .tmp t => .tmp t
  | .const v => .val (litD v)
  | .global _ => .val .top
  | .func f => .val (.fn f [])

inductive AOp where
  | mov (x : Opd)
  | pick (c a b : Opd)
  | alloc (z : List D)
  | box (x : Opd)
  | build (z : List D) (parts : List (Nat × Nat × Opd))
  | buildSlice (sz : Nat) (z : List D) (len : Nat) (parts : List (Nat × Nat × Opd))
  | load (agg : Bool) (k : Nat) (a : Opd)
  | store (k : Nat) (a x : Opd)
  | bin (op : BinOp) (x y : Opd)
  | eqb (neg : Bool) (x y : Opd)
  | nileq (k : Nat) (neg : Bool) (x : Opd)
  | eqs (neg : Bool) (ks : List Nat) (x y : Opd)
  | un (op : UnOp) (x : Opd)
  | conv (k : IntKind) (x : Opd)
  | nilck (x : Opd)
  | mkfn (f : FuncId) (caps : List Opd)
  | mkslice (sz bytes : Nat) (z : List D) (len cap : Opd)
  | slice (sz : Nat) (x : Opd) (lo hi : Option Opd)
  | slicez (x : Opd)
  | slicea (n sz : Nat) (x : Opd) (lo hi : Option Opd)
  | fieldAddr (off : Nat) (x : Opd)
  | field (agg : Bool) (off k : Nat) (x : Opd)
  | idxS (sz : Nat) (x i : Opd)
  | idxA (n sz : Nat) (x i : Opd)
  | idx (agg : Bool) (n sz : Nat) (x i : Opd)
  | len (x : Opd)
  | slen (x : Opd)
  | append (sz bytes : Nat) (x y : Opd)
  | appendz (sz bytes : Nat) (z : List D) (x n : Opd)
  | capz (x : Opd)
  | minmax (mx : Bool) (xs : List Opd)
  | extract (x : Opd) (i : Nat)
  | call (f : FuncId) (args : List Opd)
  | callv (x : Opd) (args : List Opd)
  | bad

def isAggD : TypeDesc → Bool
  | .struct _ | .array _ _ => true
  | _ => false

/-- struct types whose '==' compares all their cells, one by one, whole numbers (0), bools (1) and strings (2): the cells' kinds -/
def flatK (P : Program) : List Field → Nat → Option (List Nat)
  | [], _ => some []
  | f :: rest, off => if f.name != "_" && f.offset == off then
      match P.underlying f.type, flatK P rest (off + 1) with
      | some (.int _), some ks => some (0 :: ks)
      | some .bool, some ks => some (1 :: ks)
      | some .string, some ks => some (2 :: ks)
      | _, _ => none
    else none

def nilOf : TypeDesc → Option (Nat × Value)
  | .slice _ => some (0, .slice none 0 0)
  | .pointer _ => some (1, .pointer none)
  | .map _ _ => some (2, .map none)
  | .func _ _ _ => some (3, .nilFunc)
  | _ => none

def isNilC (k : Nat) : Operand → Bool
  | .const (.slice none 0 0) => k == 0
  | .const (.pointer none) => k == 1
  | .const (.map none) => k == 2
  | .const .nilFunc => k == 3
  | _ => false

def compBin (P : Program) (op : BinOp) (t : TypeId) (x y : Operand) : AOp :=
  match op with
  | .eql | .neq =>
    match P.underlying t with
    | some (.struct fs) => match flatK P fs.toList 0 with
      | some ks => if !P.stoodInHeld t && !P.eqGuardType P.depth t then .eqs (op == .neq) ks (opd x) (opd y) else .bad
      | none => .bad
    | some .bool => .eqb (op == .neq) (opd x) (opd y)
    | some (.int _) | some .string => .bin op (opd x) (opd y)
    | some d => match nilOf d with
      | some (k, _) => if isNilC k y then .nileq k (op == .neq) (opd x) else if isNilC k x then .nileq k (op == .neq) (opd y) else .bad
      | none => .bad
    | none => .bad
  | _ => .bin op (opd x) (opd y)

def comp (P : Program) : Op → AOp
  | .move x | .assign x => .mov (opd x)
  | .pick c a b => .pick (opd c) (opd a) (opd b)
  | .alloc e => match (P.info? e).bind (·.zero) with
    | some z => .alloc (litD z).cells
    | none => .bad
  | .box _ x => .box (opd x)
  | .build t parts => match P.underlying t, (P.info? t).bind (·.zero) with
    | some (.struct fs), some (.agg z) => match parts.toList.mapM (fun p => (fs[p.1]?).bind fun f => (P.info? f.type).map fun i => (f.offset, i.size, opd p.2)) with
      | some ps => if fs.toList.all (fun f => (P.info? f.type).isSome) then .build (litD (.agg z)).cells ps else .bad
      | none => .bad
    | some (.array _ e), some (.agg z) => match P.info? e with
      | some i => .build (litD (.agg z)).cells (parts.toList.map fun p => (p.1 * i.size, i.size, opd p.2))
      | none => .bad
    | _, _ => .bad
  | .buildSlice t len parts => match P.underlying t with
    | some (.slice e) => match P.info? e with
      | some i => match i.zero with
        | some z => if z.cells.size == i.size && i.size != 0 && len * i.size ≤ 16777216 then .buildSlice i.size (litD z).cells len (parts.toList.map fun p => (p.1 * i.size, i.size, opd p.2)) else .bad
        | none => .bad
      | none => .bad
    | _ => .bad
  | .load t a => match P.info? t, P.underlying t with
    | some i, some d => if i.size == 0 then .bad else .load (isAggD d) i.size (opd a)
    | _, _ => .bad
  | .store t a x => match P.info? t with
    | some i => if i.size == 0 then .bad else .store i.size (opd a) (opd x)
    | none => .bad
  | .nilCheck x => .nilck (opd x)
  | .binOp op t x y _ => compBin P op t x y
  | .unOp op _ x => .un op (opd x)
  | .convert a b x => match P.underlying a, P.underlying b with
    | some (.int _), some (.int k) => .conv k (opd x)
    | _, _ => .bad
  | .makeFunc (.func f) first caps => if first.isEmpty then .mkfn f (caps.toList.map opd) else .bad
  | .makeSlice t l c => match P.underlying t with
    | some (.slice e) => match P.info? e with
      | some i => match i.zero with
        | some z => if z.cells.size == i.size && i.size != 0 then .mkslice i.size i.bytes (litD z).cells (opd l) (opd c) else .bad
        | none => .bad
      | none => .bad
    | _ => .bad
  | .slice t x lo hi mx => match P.underlying t with
    | some (.slice e) => match P.info? e with
      | some i => match mx with
        | none => .slice i.size (opd x) (lo.map opd) (hi.map opd)
        | some (.const (.int _ 0)) => match lo, hi with
          | none, some (.const (.int _ 0)) => .slicez (opd x)
          | _, _ => .bad
        | _ => .bad
      | none => .bad
    | some (.array n e) => match P.info? e, mx with
      | some i, none => .slicea n i.size (opd x) (lo.map opd) (hi.map opd)
      | _, _ => .bad
    | _ => .bad
  | .fieldAddr t x f => match P.underlying t with
    | some (.struct fs) => match fs[f]? with
      | some fd => match P.info? fd.type with
        | some i => if i.size == 0 then .bad else .fieldAddr fd.offset (opd x)
        | none => .bad
      | none => .bad
    | _ => .bad
  | .field t x f => match P.underlying t with
    | some (.struct fs) => match fs[f]? with
      | some fd => match P.info? fd.type, P.underlying fd.type with
        | some i, some d => .field (isAggD d) fd.offset i.size (opd x)
        | _, _ => .bad
      | none => .bad
    | _ => .bad
  | .indexAddr t x i => match P.underlying t with
    | some (.slice e) => match P.info? e with
      | some ii => .idxS ii.size (opd x) (opd i)
      | none => .bad
    | some (.array n e) => match P.info? e with
      | some ii => .idxA n ii.size (opd x) (opd i)
      | none => .bad
    | _ => .bad
  | .index t x i => match P.underlying t with
    | some (.array n e) => match P.info? e, P.underlying e with
      | some ii, some d => .idx (isAggD d) n ii.size (opd x) (opd i)
      | _, _ => .bad
    | _ => .bad
  | .extract x i => .extract (opd x) i
  | .call c => match c.callee with
    | .builtin .len => match c.args[0]?, (c.argTypes[0]?).bind P.underlying with
      | some x, some (.slice _) => .len (opd x)
      | some x, some .string => .slen (opd x)
      | _, _ => .bad
    | .builtin .append => match c.args.toList, c.argTypes.toList with
      | [x, y], [t, u] => if t == u then match P.underlying t with
        | some (.slice e) => match P.info? e with
          | some i => match i.zero with
            | some z => if z.cells.size == i.size && i.size != 0 && i.bytes != 0 then .append i.size i.bytes (opd x) (opd y) else .bad
            | none => .bad
          | none => .bad
        | _ => .bad else match P.underlying t, P.underlying u with
        | some (.slice e), some (.int _) => match P.info? e with
          | some i => match i.zero with
            | some z => if z.cells.size == i.size && i.size != 0 && i.bytes != 0 then .appendz i.size i.bytes (litD z).cells (opd x) (opd y) else .bad
            | none => .bad
          | none => .bad
        | _, _ => .bad
      | _, _ => .bad
    | .builtin .cap => match c.args.toList, (c.argTypes[0]?).bind P.underlying with
      | [x], some (.slice _) => .capz (opd x)
      | _, _ => .bad
    | .builtin .min => .minmax false (c.args.toList.map opd)
    | .builtin .max => .minmax true (c.args.toList.map opd)
    | .value (.func f) => .call f (c.args.toList.map opd)
    | .value x => .callv (opd x) (c.args.toList.map opd)
    | _ => .bad
  | _ => .bad

/-! ### what an operation does -/
def nth (l : List D) (k : Nat) : D := l.getD k .top

def St.val (s : St) : Opd → D
  | .tmp t => nth s.sl t
  | .val d => d

def St.blk (s : St) (b : Nat) : Blk := mrg s.n s.h s.lc b
/-- what an operation changes: blocks, by their numbers -/
abbrev Chg := List (Nat × Blk)
def app (H : Heap) (δ : Chg) : Heap := δ.foldl (fun H p => upd H p.1 p.2) H
def St.app1 (s : St) (p : Nat × Blk) : St := if p.1 < s.n then ⟨s.n, s.sl, upd s.h p.1 p.2, s.lc⟩ else ⟨s.n, s.sl, s.h, s.lc.set (p.1 - s.n) p.2⟩
def St.app (s : St) (δ : Chg) : St := δ.foldl St.app1 s
def St.inr (s : St) (δ : Chg) : Prop := ∀ p ∈ δ, p.1 < s.n + s.lc.length

def lver (lc : List Blk) (t : Nat) : Nat := (lc.getD t blk0).ver + 1
def St.new (s : St) (dst : Option Nat) (con : Con) (K : Nat → Nat → Chg → Prop) : Prop :=
  match dst with
  | none => False
  | some t => t < s.lc.length ∧ (s.lc.getD t blk0).con.isOpq = false ∧ K (s.n + t) (lver s.lc t) [(s.n + t, ⟨lver s.lc t, con⟩)]

/-- the cells of a block that is there -/
def St.at (s : St) (b ver : Nat) (K : List D → Prop) : Prop :=
  match s.blk b with
  | ⟨v, .cells cs⟩ => v = ver ∧ K cs
  | _ => False

def D.solid : D → Bool
  | .top => false
  | .tup _ => false
  | _ => true

def splice (cs : List D) (off : Nat) (xs : List D) : List D := cs.take off ++ xs ++ cs.drop (off + xs.length)

def ld (agg : Bool) (k : Nat) (cs : List D) (off : Nat) (K : D → Prop) : Prop :=
  if agg then off + k ≤ cs.length ∧ K (.agg ((cs.drop off).take k)) else off < cs.length ∧ K (nth cs off)

def fillD (cs : List D) : List (Nat × Nat × D) → (List D → Prop) → Prop
  | [], K => K cs
  | (off, k, d) :: rest, K => d.solid = true ∧ d.cells.length = k ∧ off + k ≤ cs.length ∧ fillD (splice cs off d.cells) rest K

def bounds (lo hi : Option D) (n : Nat) (K : Nat → Nat → Prop) : Prop :=
  match lo, hi with
  | none, none => K 0 n
  | some (.int _ a), none => 0 ≤ a ∧ a ≤ n ∧ K a.toNat n
  | none, some (.int _ b) => 0 ≤ b ∧ b ≤ n ∧ K 0 b.toNat
  | some (.int _ a), some (.int _ b) => 0 ≤ a ∧ a ≤ b ∧ b ≤ n ∧ K a.toNat b.toNat
  | _, _ => False

/-- the cells that an append brings -/
def srcOf (s : St) (sz : Nat) (d : D) (K : Nat → List D → Prop) : Prop :=
  match d with
  | .nils | .emp => K 0 []
  | .lst l => (∀ x ∈ l, x.cells.length = sz) ∧ K l.length (l.flatMap D.cells)
  | .ref sz' b ver off len => sz' = sz ∧ s.at b ver fun cs => off + len * sz ≤ cs.length ∧ K len ((cs.drop off).take (len * sz))
  | _ => False

def eqAll : List Nat → List D → List D → (Bool → Prop) → Prop
  | [], [], [], K => K true
  | 0 :: ks, .int k a :: xs, .int k' b :: ys, K => k = k' ∧ eqAll ks xs ys fun c => K ((a == b) && c)
  | 1 :: ks, .bool a :: xs, .bool b :: ys, K => eqAll ks xs ys fun c => K ((a == b) && c)
  | 2 :: ks, .str a :: xs, .str b :: ys, K => eqAll ks xs ys fun c => K ((a.toList == b.toList) && c)
  | _, _, _, _ => False

def binD (op : BinOp) (x y : D) (K : D → Prop) : Prop :=
  match x, y with
  | .int k a, .int k' b => k = k' ∧
    match op with
    | .add => K (.int k (k.wrap (a + b)))
    | .sub => K (.int k (k.wrap (a - b)))
    | .mul => K (.int k (k.wrap (a * b)))
    | .quo => b ≠ 0 ∧ K (.int k (k.wrap (a.tdiv b)))
    | .rem => b ≠ 0 ∧ K (.int k (a.tmod b))
    | .eql => K (.bool (a == b))
    | .neq => K (.bool (a != b))
    | .lss => K (.bool (decide (a < b)))
    | .leq => K (.bool (decide (a ≤ b)))
    | .gtr => K (.bool (decide (a > b)))
    | .geq => K (.bool (decide (a ≥ b)))
    | _ => False
  | .str a, .str b =>
    match op with
    | .eql => K (.bool (a.toList == b.toList))
    | .neq => K (.bool (!(a.toList == b.toList)))
    | _ => False
  | _, _ => False

def minD (mx : Bool) (x y : D) : D :=
  match x, y with
  | .int k a, .int _ b => .int k (if mx then (if b > a then b else a) else (if b < a then b else a))
  | _, _ => .top

def intsD : List D → Bool
  | [] => true
  | .int .i64 _ :: r => intsD r
  | _ => false

def run (s : St) (dst : Option Nat) (K : D → Chg → Prop) : AOp → Prop
  | .mov x => K (s.val x) []
  | .pick c a b => match s.val c with
    | .bool t => K (if t then s.val a else s.val b) []
    | _ => False
  | .alloc z => s.new dst (.cells z) fun id ver δ => K (.ptr id ver 0) δ
  | .box x => (s.val x).solid = true ∧ s.new dst (.cells (s.val x).cells) fun id ver δ => K (.ptr id ver 0) δ
  | .build z parts => fillD z (parts.map fun p => (p.1, p.2.1, s.val p.2.2)) fun cs => K (.agg cs) []
  | .buildSlice sz z len parts => fillD (List.replicate len z).flatten (parts.map fun p => (p.1, p.2.1, s.val p.2.2)) fun cs =>
      s.new dst (.cells cs) fun id ver δ => K (.ref sz id ver 0 len) δ
  | .load agg k a => match s.val a with
    | .adr cs => ld agg k cs 0 fun d => K d []
    | .ptr b ver off => s.at b ver fun cs => ld agg k cs off fun d => K d []
    | _ => False
  | .store k a x => match s.val a with
    | .ptr b ver off => s.at b ver fun cs => (s.val x).cells.length = k ∧ (∀ c ∈ (s.val x).cells, c.one = true) ∧ off + k ≤ cs.length ∧
        K .top [(b, ⟨ver, .cells (splice cs off (s.val x).cells)⟩)]
    | _ => False
  | .bin op x y => binD op (s.val x) (s.val y) fun d => K d []
  | .eqb neg x y => match s.val x, s.val y with
    | .bool a, .bool b => K (.bool ((a == b) != neg)) []
    | _, _ => False
  | .nileq k neg x => match k, s.val x with
    | 0, .nils => K (.bool !neg) []
    | 1, .nilp => K (.bool !neg) []
    | 2, .nilmap => K (.bool !neg) []
    | 3, .nilfn => K (.bool !neg) []
    | 0, .emp => K .abool []
    | 0, .lst l => (l = [] → K .abool []) ∧ (l ≠ [] → K (.bool neg) [])
    | 0, .ref _ b ver _ len => s.at b ver fun _ => (len = 0 → K .abool []) ∧ (len ≠ 0 → K (.bool neg) [])
    | 1, .adr _ => K (.bool neg) []
    | 3, .fn _ _ => K (.bool neg) []
    | 1, .ptr b ver _ => s.at b ver fun cs => cs ≠ [] ∧ K (.bool neg) []
    | _, _ => False
  | .eqs neg ks x y => match s.val x, s.val y with
    | .agg xs, .agg ys => eqAll ks xs ys fun b => K (.bool (b != neg)) []
    | _, _ => False
  | .un op x => match op, s.val x with
    | .not, .bool b => K (.bool !b) []
    | .not, .abool => K .abool []
    | .neg, .int k n => K (.int k (k.wrap (0 - n))) []
    | _, _ => False
  | .conv k x => match s.val x with
    | .int _ n => K (.int k (k.wrap n)) []
    | _ => False
  | .nilck x => match s.val x with
    | .adr cs => K (.adr cs) []
    | .fn f cs => K (.fn f cs) []
    | .ptr b ver off => s.at b ver fun cs => cs ≠ [] ∧ K (.ptr b ver off) []
    | _ => False
  | .mkfn f caps => K (.fn f (caps.map s.val)) []
  | .mkslice sz bytes z len cap => match s.val len, s.val cap with
    | .int .i64 n, .int .i64 c => 0 ≤ n ∧ n ≤ c ∧ c * bytes ≤ 140737488355328 ∧ c ≤ 9223372036854775807 ∧ s.new dst (.cells (List.replicate n.toNat z).flatten) fun id ver δ => K (.ref sz id ver 0 n.toNat) δ
    | _, _ => False
  | .slice sz x lo hi => match s.val x with
    | .lst l => (∀ d ∈ l, d.cells.length = sz) ∧ bounds (lo.map s.val) (hi.map s.val) l.length fun a b => K (.lst ((l.drop a).take (b - a))) []
    | .ref sz' b ver off len => sz' = sz ∧ s.at b ver fun _ => bounds (lo.map s.val) (hi.map s.val) len fun i j => K (.ref sz b ver (off + i * sz) (j - i)) []
    | .nils | .emp => bounds (lo.map s.val) (hi.map s.val) 0 fun _ _ => K .emp []
    | _ => False
  | .slicez x => match s.val x with
    | .lst _ | .nils | .emp => K .emp []
    | .ref _ _ _ _ _ => K .emp []
    | _ => False
  | .slicea n sz x lo hi => match s.val x with
    | .ptr b ver off => s.at b ver fun cs => off + n * sz ≤ cs.length ∧ cs ≠ [] ∧ bounds (lo.map s.val) (hi.map s.val) n fun i j => K (.ref sz b ver (off + i * sz) (j - i)) []
    | _ => False
  | .fieldAddr off x => match s.val x with
    | .adr cs => K (.adr (cs.drop off)) []
    | .ptr b ver o => s.at b ver fun cs => cs ≠ [] ∧ K (.ptr b ver (o + off)) []
    | _ => False
  | .field agg off k x => match s.val x with
    | .agg cs => ld agg k cs off fun d => K d []
    | _ => False
  | .idxS sz x i => match s.val x, s.val i with
    | .lst l, .int _ i => 0 ≤ i ∧ i < l.length ∧ (nth l i.toNat).cells.length = sz ∧ K (.adr (nth l i.toNat).cells) []
    | .ref sz' b ver off len, .int _ i => sz' = sz ∧ 0 ≤ i ∧ i < len ∧ s.at b ver fun _ => K (.ptr b ver (off + i.toNat * sz)) []
    | _, _ => False
  | .idxA n sz x i => match s.val x, s.val i with
    | .ptr b ver off, .int _ i => 0 ≤ i ∧ i < n ∧ s.at b ver fun cs => cs ≠ [] ∧ K (.ptr b ver (off + i.toNat * sz)) []
    | .adr cs, .int _ i => 0 ≤ i ∧ i < n ∧ K (.adr (cs.drop (i.toNat * sz))) []
    | _, _ => False
  | .idx agg n sz x i => match s.val x, s.val i with
    | .agg cs, .int _ i => 0 ≤ i ∧ i < n ∧ ld agg sz cs (i.toNat * sz) fun d => K d []
    | _, _ => False
  | .len x => match s.val x with
    | .nils | .emp => K (.int .i64 0) []
    | .lst l => K (.int .i64 l.length) []
    | .ref _ b ver _ len => s.at b ver fun _ => K (.int .i64 len) []
    | _ => False
  | .slen x => match s.val x with
    | .str t => K (.int .i64 t.size) []
    | _ => False
  | .append sz bytes x y => srcOf s sz (s.val y) fun m news => (∀ c ∈ news, c.one = true) ∧
    match s.val x with
    | .nils | .emp => m * bytes ≤ 140737488355328 ∧ s.new dst (.cells news) fun id ver δ => K (.ref sz id ver 0 m) δ
    | .ref sz' b ver off len => sz' = sz ∧ s.at b ver fun cs => off + len * sz ≤ cs.length ∧ (len + m) * bytes ≤ 140737488355328 ∧
        K (.ref sz b (ver + 1) 0 (len + m)) [(b, ⟨ver + 1, .cells ((cs.drop off).take (len * sz) ++ news)⟩)]
    | _ => False
  | .appendz sz bytes z x n => match s.val x, s.val n with
    | .nils, .int .i64 k | .emp, .int .i64 k => 0 < k ∧ k * bytes ≤ 140737488355328 ∧ s.new dst (.cells (List.replicate k.toNat z).flatten) fun id ver δ => K (.ref sz id ver 0 k.toNat) δ
    | _, _ => False
  | .capz x => match s.val x with
    | .nils | .emp => K (.int .i64 0) []
    | _ => False
  | .minmax mx xs => match xs.map s.val with
    | d :: ds => intsD (d :: ds) = true ∧ ds.length ≤ 8 ∧ K (ds.foldl (minD mx) d) []
    | [] => False
  | .extract x i => match s.val x with
    | .tup ds => i < ds.length ∧ K (nth ds i) []
    | _ => False
  | _ => False

end Abs
end Go.Proofs.Ytfojedaccfenfab
