/- Go's code of this model run on plain data instead of memory: definitions. -/
import Derived.Calls
import Derived.Orders
namespace Go.Proofs.YtaldfmbnfnagjaaDoor.E

/-- The shapes of plain data: one cell each (bool, int, str, sl), nothing, two behind one another. -/
inductive Sh where
  | bool | int (k : IntKind) | str | unit | pair (a b : Sh) | sl (row : Sh)
  deriving DecidableEq, Inhabited

@[reducible] def Sh.T : Sh → Type
  | .bool => Bool
  | .int _ => Int
  | .str => ByteArray
  | .unit => Unit
  | .pair a b => a.T × b.T
  | .sl row => List row.T

def Sh.n : Sh → Nat
  | .unit => 0
  | .pair a b => a.n + b.n
  | _ => 1

def Sh.zero : (s : Sh) → s.T
  | .bool => false
  | .int _ => (0 : Int)
  | .str => (⟨#[]⟩ : ByteArray)
  | .unit => ()
  | .pair a b => (a.zero, b.zero)
  | .sl _ => []

/-- What a slot or a cell holds. -/
inductive D where
  | bool (b : Bool)
  | int (k : IntKind) (n : Int)
  | str (s : ByteArray)
  | nil
  | sl (row : Sh) (xs : List row.T)
  | ep (row : Sh) (x : row.T) (off : Nat)
  | agg (ds : List D)
  | tup (ds : List D)
  | loc (k off : Nat)
  | vec (k : Nat)
  | vel (k i off : Nat)
  | glob (g : Nat)
  | fn (f : FuncId)
  | val (v : Value)
  | unk
  deriving Inhabited

/-- What a frame's own memory holds under a key: cells, or a growing row of elements (fz: what is there stays). -/
inductive Bx where
  | cells (ds : List D)
  | vec (row : Sh) (xs : List row.T) (fz : Bool)
  | dead

structure St where
  sl : Nat → D
  bx : Nat → Option Bx

def upd {α : Type} (f : Nat → α) (k : Nat) (v : α) : Nat → α := fun i => cond (Nat.beq i k) v (f i)
def restr {α : Type} (d : α) (ks : List Nat) (f : Nat → α) : Nat → α := fun i => cond (ks.any (Nat.beq i)) (f i) d
def puts : List (Nat × Option Bx) → (Nat → Option Bx) → (Nat → Option Bx)
  | [], f => f
  | u :: r, f => puts r (upd f u.1 u.2)

def enc : (s : Sh) → s.T → List D
  | .bool, b => [.bool b]
  | .int k, n => [.int k n]
  | .str, s => [.str s]
  | .unit, _ => []
  | .pair a b, x => enc a x.1 ++ enc b x.2
  | .sl row, xs => [.sl row xs]

/-- The same elements where two rows are one. -/
def castT {a b : Sh} (h : a = b) (xs : List a.T) : List b.T := h ▸ xs
def dec : (s : Sh) → List D → Option (s.T × List D)
  | .bool, .bool b :: r => some (b, r)
  | .int k, .int k' n :: r => if k' = k then some (n, r) else none
  | .str, .str s :: r => some (s, r)
  | .unit, r => some ((), r)
  | .pair a b, r => (dec a r).bind fun x => (dec b x.2).bind fun y => some ((x.1, y.1), y.2)
  | .sl row, .sl row' xs :: r => if h : row' = row then some (castT h xs, r) else none
  | .sl _, .nil :: r => some ([], r)
  | _, _ => none

def decAll (s : Sh) (ds : List D) : Option s.T := (dec s ds).bind fun p => match p.2 with | [] => some p.1 | _ => none

/-- A parameter's or a result's form: one cell, or a struct. -/
inductive V where
  | leaf (s : Sh) | agg (s : Sh)
@[reducible] def V.T : V → Type | .leaf s => s.T | .agg s => s.T
@[reducible] def VsT : List V → Type
  | [] => Unit
  | v :: r => v.T × VsT r
def one : List D → D | [d] => d | _ => .unk
def encV : (v : V) → v.T → D
  | .leaf s, x => one (enc s x)
  | .agg s, x => .agg (enc s x)
def decV : (v : V) → D → Option v.T
  | .leaf _, .agg _ => none
  | .leaf _, .tup _ => none
  | .leaf s, d => decAll s [d]
  | .agg s, .agg ds => decAll s ds
  | .agg _, _ => none
def encVs : (l : List V) → VsT l → List D
  | [], _ => []
  | v :: r, x => encV v x.1 :: encVs r x.2
def decVs : (l : List V) → List D → Option (VsT l)
  | [], [] => some ()
  | v :: r, d :: ds => (decV v d).bind fun x => (decVs r ds).bind fun y => some (x, y)
  | _, _ => none
def tup : List D → D | [d] => d | ds => .tup ds

/-- What is known of a function: its parameters, its results, what it computes. -/
structure Entry where
  a : List V
  r : List V
  g : VsT a → Option (VsT r)

structure Ctx where
  P : Program
  nt : Nat
  sh : TypeId → Option Sh
  fn : FuncId → Option Entry
  gl : Nat → Option ((s : Sh) × List s.T)

/-- A value that is held as it is: no struct, no tuple. -/
def bare : Value → Bool
  | .agg _ | .tuple _ => false
  | _ => true
def leafOf : Value → D
  | .bool b => .bool b
  | .int k n => .int k n
  | .string s => .str s
  | .slice none 0 0 => .nil
  | .func (.func f) first captured => if first.isEmpty && captured.isEmpty then .fn f else .unk
  | .nilIface => .val .nilIface
  | .nilFunc => .val .nilFunc
  | .pointer none => .val (.pointer none)
  | .map none => .val (.map none)
  | _ => .unk
def ofVal : Value → D
  | .agg cs => .agg (cs.toList.map leafOf)
  | v => leafOf v

def St.ev (st : St) : Operand → D
  | .tmp t => st.sl t
  | .const v => ofVal v
  | .global g => .glob g
  | .func f => .fn f

def D.key1 : D → List Nat
  | .loc k _ => [k]
  | .vec k => [k]
  | .vel k _ _ => [k]
  | _ => []
def D.key2 : D → List Nat
  | .agg ds => ds.flatMap D.key1
  | d => d.key1
def D.keys : D → List Nat
  | .tup ds => ds.flatMap D.key2
  | d => d.key2
def D.isUnk : D → Bool | .unk => true | _ => false
def D.leaves : D → List D | .agg ds => ds | d => [d]
def thaw1 (bx : Nat → Option Bx) : D → D
  | .vec k => match bx k with | some (.vec row xs true) => .sl row xs | _ => .unk
  | d => d
/-- A growing row that stays, told as what it holds. -/
def thaw (bx : Nat → Option Bx) : D → D
  | .agg ds => .agg (ds.map (thaw1 bx))
  | d => thaw1 bx d
def D.vecs1 : D → List Nat
  | .vec k => [k]
  | _ => []
def D.vecs : D → List Nat
  | .agg ds => ds.flatMap D.vecs1
  | d => d.vecs1
/-- These growing rows stay from now on. -/
def froze (bx : Nat → Option Bx) (ks : List Nat) : List (Nat × Option Bx) :=
  ks.filterMap fun k => match bx k with | some (.vec row xs _) => some (k, some (.vec row xs true)) | _ => none
def D.solid : D → Bool
  | .unk | .agg _ | .tup _ => false
  | .val v => bare v
  | _ => true

section
variable {R : Type} (C : Ctx)
def sz (t : TypeId) : Nat := cond (C.P.underlying t).isSome (C.P.cellsOf t) 0
def aggs (t : TypeId) : Bool := match C.P.underlying t with | some (.struct _) | some (.array _ _) => true | _ => false
/-- What can be laid cell by cell. -/
def D.okv : D → Bool | .agg _ => true | d => d.solid
def zeroD (t : TypeId) : Option (List D) := ((C.P.info? t).bind (·.zero)).map fun v => v.cells.toList.map leafOf
def mk (t : TypeId) (ds : List D) : D := if aggs C t then .agg ds else one ds
def cut (off n : Nat) (ds : List D) : Option (List D) := if off + n ≤ ds.length then some ((ds.drop off).take n) else none
def splice (off : Nat) (new ds : List D) : Option (List D) :=
  if off + new.length ≤ ds.length then some (ds.take off ++ new ++ ds.drop (off + new.length)) else none
def fieldOff (t : TypeId) (f : Nat) : Option (Nat × TypeId) :=
  match C.P.underlying t with | some (.struct fs) => (fs[f]?).map fun x => (x.offset, x.type) | _ => none
def fillD : List (Nat × Nat) → List D → List (Nat × D) → Option (List D)
  | _, cells, [] => some cells
  | places, cells, (i, d) :: r => match places[i]? with
    | none => none
    | some (off, n) => if d.okv && d.leaves.length == n then (splice off d.leaves cells).bind fun c => fillD places c r else none

def idx {α : Type} (xs : List α) (i : Int) : Option α := cond (decide (0 ≤ i)) xs[i.toNat]? none
def sidx (s : ByteArray) (i : Int) : Option Int := cond (decide (0 ≤ i)) ((s.data.toList[i.toNat]?).map fun c => (c.toNat : Int)) none
def bytesL (s : ByteArray) : List (Sh.int .u8).T := s.data.toList.map fun c => (c.toNat : Int)
def strEq (a b : ByteArray) : Bool := a.toList == b.toList
/-- Fields, one behind the other, each of a name, held together. -/
def eqFs (g : TypeId → List D → List D → Option Bool) : List Field → Nat → List D → List D → Option Bool
  | [], _, _, _ => some true
  | f :: fs, off, xs, ys =>
    if f.name != "_" && f.offset == off && Nat.ble 1 (sz C f.type) && Nat.ble (sz C f.type) xs.length && Nat.ble (sz C f.type) ys.length then
      (match fs with
      | [] => g f.type (xs.take (sz C f.type)) (ys.take (sz C f.type))
      | _ :: _ => match g f.type (xs.take (sz C f.type)) (ys.take (sz C f.type)), eqFs g fs (off + sz C f.type) (xs.drop (sz C f.type)) (ys.drop (sz C f.type)) with
        | some p, some q => some (p && q)
        | _, _ => none)
    else none
/-- Bools, numbers, strings, and structs of such, held together. -/
def eqD : Nat → TypeId → List D → List D → Option Bool
  | 0, _, _, _ => none
  | d + 1, t, xs, ys => match C.P.underlying t with
    | some .bool => (match xs, ys with | [.bool a], [.bool b] => some (a == b) | _, _ => none)
    | some (.int _) => (match xs, ys with | [.int k a], [.int k' b] => if k = k' then some (a == b) else none | _, _ => none)
    | some .string => (match xs, ys with | [.str a], [.str b] => some (a.toList == b.toList) | _, _ => none)
    | some (.struct fs) => if C.P.stoodInHeld t then none else eqFs C (eqD d) fs.toList 0 xs ys
    | _ => none

def intBin (op : BinOp) (k : IntKind) (a b : Int) (K : D → Option R) : Option R :=
  match op with
  | .add => K (.int k (k.wrap (a + b)))
  | .sub => K (.int k (k.wrap (a - b)))
  | .mul => K (.int k (k.wrap (a * b)))
  | .quo => cond (b == 0) none (K (.int k (k.wrap (a.tdiv b))))
  | .rem => cond (b == 0) none (K (.int k (a.tmod b)))
  | .and => K (.int k (k.wrap (BitVec.ofInt k.bits a &&& BitVec.ofInt k.bits b).toNat))
  | .or => K (.int k (k.wrap (BitVec.ofInt k.bits a ||| BitVec.ofInt k.bits b).toNat))
  | .xor => K (.int k (k.wrap (BitVec.ofInt k.bits a ^^^ BitVec.ofInt k.bits b).toNat))
  | .andNot => K (.int k (k.wrap (BitVec.ofInt k.bits a &&& ~~~(BitVec.ofInt k.bits b)).toNat))
  | .eql => K (.bool (a == b))
  | .neq => K (.bool (a != b))
  | .lss => K (.bool (decide (a < b)))
  | .leq => K (.bool (decide (a ≤ b)))
  | .gtr => K (.bool (decide (a > b)))
  | .geq => K (.bool (decide (a ≥ b)))
  | .shl | .shr => none
def strBin (op : BinOp) (a b : ByteArray) (K : D → Option R) : Option R :=
  match op with
  | .add => cond (decide (((a.size + b.size : Nat) : Int) > IntKind.i64.max)) none (K (.str (a ++ b)))
  | .eql => K (.bool (a.toList == b.toList))
  | .neq => K (.bool (!(a.toList == b.toList)))
  | .lss => K (.bool (Op.bytesLess a.toList b.toList))
  | .leq => K (.bool (Op.bytesLess a.toList b.toList || a.toList == b.toList))
  | .gtr => K (.bool (!(Op.bytesLess a.toList b.toList || a.toList == b.toList)))
  | .geq => K (.bool (!(Op.bytesLess a.toList b.toList)))
  | _ => none
def binD (op : BinOp) (t : TypeId) (x y : D) (K : D → Option R) : Option R :=
  match x, y with
  | .int k a, .int k' b => match op with
    | .shl => cond (decide (b < 0)) none (K (.int k (k.wrap (a * 2 ^ (min b.toNat k.bits)))))
    | .shr => cond (decide (b < 0)) none (K (.int k (a.fdiv (2 ^ (min b.toNat k.bits)))))
    | op => if k = k' then intBin op k a b K else none
  | .str a, .str b => strBin op a b K
  | .bool a, .bool b => match C.P.underlying t, op with
    | some .bool, .eql => K (.bool (a == b))
    | some .bool, .neq => K (.bool (!(a == b)))
    | _, _ => none
  | .agg xs, .agg ys => if aggs C t && !(C.P.eqGuardType C.P.depth t) && xs.length == sz C t then (match op with
    | .eql => (match eqD C 50 t xs ys with | some e => K (.bool e) | none => none)
    | .neq => (match eqD C 50 t xs ys with | some e => K (.bool (!e)) | none => none)
    | _ => none) else none
  | _, _ => none
def unD (op : UnOp) (x : D) (K : D → Option R) : Option R :=
  match op, x with
  | .neg, .int k n => K (.int k (k.wrap (0 - n)))
  | .xor, .int k n => K (.int k (k.wrap (BitVec.ofInt k.bits (if k.signed then -1 else k.max) ^^^ BitVec.ofInt k.bits n).toNat))
  | .not, .bool b => K (.bool (!b))
  | _, _ => none

def loadK (st : St) (a : D) (t : TypeId) (K : D → Option R) : Option R :=
  if sz C t = 0 then none else
  match a with
  | .loc k off => match st.bx k with
    | some (.cells ds) => match cut off (sz C t) ds with | some c => K (mk C t c) | none => none
    | _ => none
  | .ep row x off => match cut off (sz C t) (enc row x) with | some c => K (mk C t c) | none => none
  | .vel k i off => match st.bx k with
    | some (.vec row xs _) => (xs[i]?).bind fun x => match cut off (sz C t) (enc row x) with | some c => K (mk C t c) | none => none
    | _ => none
  | .glob g => match C.gl g with
    | some ⟨row, [x]⟩ => match cut 0 (sz C t) (enc row x) with | some c => K (mk C t c) | none => none
    | _ => none
  | _ => none
def storeK (st : St) (a v : D) (t : TypeId) (K : List (Nat × Option Bx) → Option R) : Option R :=
  if v.leaves.length = sz C t && v.leaves.all D.solid && Nat.ble 1 (sz C t) then
  match a with
  | .loc k off => match st.bx k with
    | some (.cells ds) => match splice off v.leaves ds with | some c => K [(k, some (.cells c))] | none => none
    | _ => none
  | .vel k i off => match st.bx k with
    | some (.vec row xs false) => (xs[i]?).bind fun x =>
      match splice off v.leaves (enc row x) with
      | some c => match decAll row c with | some y => K [(k, some (.vec row (xs.set i y) false))] | none => none
      | none => none
    | _ => none
  | _ => none
  else none

def fresh (st : St) (dst : Nat) (a : Option R) : Option R := match st.bx dst with | none => a | some _ => none
def boundK (n : Nat) (low high : Option D) (K : Nat → Nat → Option R) : Option R :=
  match low, high with
  | none, none => K 0 n
  | some (.int _ l), none => cond (decide (0 ≤ l)) (cond (decide (l ≤ n)) (K l.toNat n) none) none
  | none, some (.int _ h) => cond (decide (0 ≤ h)) (cond (decide (h ≤ n)) (K 0 h.toNat) none) none
  | some (.int _ l), some (.int _ h) => cond (decide (0 ≤ l)) (cond (decide (l ≤ h)) (cond (decide (h ≤ n)) (K l.toNat h.toNat) none) none) none
  | _, _ => none
def sliceK (st : St) (dst n : Nat) (x : D) (low high : Option D) (K : D → List (Nat × Option Bx) → Option R) : Option R :=
  match x with
  | .sl row xs => if row.n = n then boundK xs.length low high fun l h => K (.sl row ((xs.take h).drop l)) [] else none
  | .vec k => match st.bx k, low with
    | some (.vec row xs false), none => if row.n = n then fresh st dst (boundK xs.length low high fun _ h => K (.vec dst) [(k, some .dead), (dst, some (.vec row (xs.take h) false))]) else none
    | some (.vec row xs _), some _ => if row.n = n then boundK xs.length low high fun l h => K (.sl row ((xs.take h).drop l)) [(k, some (.vec row xs true))] else none
    | _, _ => none
  | .nil => boundK 0 low high fun _ _ => K .nil []
  | _ => none
def roomy : Nat := 2 ^ 30
def zeroLen (e : TypeId) : Bool := match zeroD C e with | some ds => Nat.beq ds.length (sz C e) | none => false
def rowOf (t : TypeId) : Option Sh := match C.P.underlying t with | some (.slice e) => if Nat.ble (C.P.bytesOf e) 4096 && Nat.ble 1 (sz C e) && zeroLen C e then (C.sh e).bind fun s => if s.n = sz C e then some s else none else none | _ => none
/-- The zero of a row's elements, as the type's own. -/
def zeroT (t : TypeId) (row : Sh) : Option row.T := match C.P.underlying t with | some (.slice e) => (zeroD C e).bind (decAll row) | _ => none
def elemSz (t : TypeId) : Nat := match C.P.underlying t with | some (.slice e) => sz C e | _ => 0
/-- The elements that are appended. -/
def moreD (row : Sh) : D → Option (List row.T)
  | .nil => some []
  | .sl row' xs => if h : row' = row then some (castT h xs) else none
  | .str s => if h : Sh.int .u8 = row then some (castT h (s.data.toList.map fun c => (c.toNat : Int) : List (Sh.int .u8).T)) else none
  | _ => none
def appendK (st : St) (dst : Nat) (t : TypeId) (a b : D) (K : D → List (Nat × Option Bx) → Option R) : Option R :=
  fresh st dst (match rowOf C t with
  | none => none
  | some row => match moreD row (thaw (puts (froze st.bx b.vecs) st.bx) b) with
    | none => none
    | some ys => match a with
      | .nil => cond (decide (ys.length ≤ roomy)) (K (.vec dst) (froze st.bx b.vecs ++ [(dst, some (.vec row ys false))])) none
      | .vec k => match st.bx k with
        | some (.vec row' xs fz) => if h : row' = row then
            (if b.vecs.any (Nat.beq k) then none else
              cond (decide (xs.length + ys.length ≤ roomy)) (K (.vec dst) (froze st.bx b.vecs ++ [(k, some .dead), (dst, some (.vec row (castT h xs ++ ys) fz))])) none)
          else none
        | _ => none
      | _ => none)
def lenK (st : St) (d : D) (K : D → Option R) : Option R :=
  match d with
  | .str s => K (.int .i64 s.size)
  | .sl _ xs => K (.int .i64 xs.length)
  | .nil => K (.int .i64 0)
  | .vec k => match st.bx k with | some (.vec _ xs _) => K (.int .i64 xs.length) | _ => none
  | _ => none
def callK (st : St) (f : FuncId) (ds : List D) (K : D → List (Nat × Option Bx) → Option R) : Option R :=
  match C.fn f with
  | none => none
  | some E => match decVs E.a (ds.map (thaw (puts (froze st.bx (ds.flatMap D.vecs)) st.bx))) with
    | none => none
    | some x => (E.g x).bind fun y => K (tup (encVs E.r y)) (froze st.bx (ds.flatMap D.vecs))

def buildRows (row : Sh) : List D → Option (List row.T)
  | [] => some []
  | d :: r => match decAll row d.leaves, buildRows row r with | some x, some xs => if d.okv then some (x :: xs) else none | _, _ => none

/-- One operation, with what comes behind it. -/
def coreK (op : Op) (st : St) (dst : Nat) (K : D → List (Nat × Option Bx) → Option R) : Option R :=
  match op with
  | .move x | .assign x => K (st.ev x) []
  | .pick c a b => match st.ev c with
    | .bool t => cond t (K (st.ev a) []) (K (st.ev b) [])
    | _ => none
  | .alloc t => fresh st dst (match zeroD C t with | some ds => if Nat.ble 1 (sz C t) then K (.loc dst 0) [(dst, some (.cells ds))] else none | none => none)
  | .box t v => fresh st dst (if (st.ev v).leaves.length == sz C t && (st.ev v).okv && Nat.ble 1 (sz C t) then K (.loc dst 0) [(dst, some (.cells (st.ev v).leaves))] else none)
  | .build t parts => match C.P.underlying t, zeroD C t with
    | some (.struct fs), some z =>
      if !(fs.toList.all fun f => Nat.ble 1 (sz C f.type)) then none else
      match fillD (fs.toList.map fun f => (f.offset, sz C f.type)) z (parts.toList.map fun p => (p.1, st.ev p.2)) with
      | some ds => K (.agg ds) []
      | none => none
    | _, _ => none
  | .buildSlice t n parts => fresh st dst (match rowOf C t with
    | some row =>
      if parts.toList.map (·.1) = List.range n && Nat.ble (n * row.n) 1048576 then
        match buildRows row (parts.toList.map fun p => thaw (puts (froze st.bx (parts.toList.flatMap fun p => (st.ev p.2).vecs)) st.bx) (st.ev p.2)) with
        | some xs => K (.vec dst) (froze st.bx (parts.toList.flatMap fun p => (st.ev p.2).vecs) ++ [(dst, some (.vec row xs false))])
        | none => none
      else none
    | none => none)
  | .load t a => loadK C st (st.ev a) t fun d => K d []
  | .store t a v => storeK C st (st.ev a) (st.ev v) t fun us => K .unk us
  | .nilCheck x => match st.ev x with
    | .loc k o => K (.loc k o) []
    | .ep r y o => K (.ep r y o) []
    | .vel k i o => K (.vel k i o) []
    | _ => none
  | .binOp op t x y _ => binD C op t (st.ev x) (st.ev y) fun d => K d []
  | .unOp op _ x => unD op (st.ev x) fun d => K d []
  | .convert s d x => match C.P.underlying s, C.P.underlying d, st.ev x with
    | some (.int _), some (.int k), .int _ n => K (.int k (k.wrap n)) []
    | some .string, some .string, .str s => K (.str s) []
    | some .string, some (.slice e), .str s => match C.P.underlying e with
      | some (.int .u8) => K (.sl (.int .u8) (bytesL s)) []
      | _ => none
    | _, _, _ => none
  | .slice t x lo hi none => match C.P.underlying t with
    | some .string => (match st.ev x with
      | .str s => boundK s.size (lo.map st.ev) (hi.map st.ev) fun l h => K (.str (s.extract l h)) []
      | _ => none)
    | some (.slice e) => if Nat.ble 1 (sz C e) then sliceK st dst (sz C e) (st.ev x) (lo.map st.ev) (hi.map st.ev) K else none
    | some (.array n e) => (match st.ev x with
      | .glob g => match C.gl g with
        | some ⟨row, xs⟩ => if row.n = sz C e && xs.length == n && Nat.ble 1 (sz C e) then boundK xs.length (lo.map st.ev) (hi.map st.ev) fun l h => K (.sl row ((xs.take h).drop l)) [] else none
        | none => none
      | _ => none)
    | _ => none
  | .fieldAddr t x f => match fieldOff C t f, st.ev x with
    | some (o, ft), d => if 0 < sz C ft then (match d with
      | .loc k off => K (.loc k (off + o)) []
      | .ep row x off => K (.ep row x (off + o)) []
      | .vel k i off => K (.vel k i (off + o)) []
      | _ => none) else none
    | none, _ => none
  | .field t x f => match fieldOff C t f, st.ev x with
    | some (o, ft), .agg ds => if sz C ft = 0 then none else match cut o (sz C ft) ds with | some c => K (mk C ft c) [] | none => none
    | _, _ => none
  | .indexAddr t x i => match C.P.underlying t, st.ev x, st.ev i with
    | some (.slice e), .sl row xs, .int _ n => if row.n = sz C e && Nat.ble 1 (sz C e) then (idx xs n).bind fun x => K (.ep row x 0) [] else none
    | some (.slice e), .vec k, .int _ n => match st.bx k with
      | some (.vec row xs _) => if row.n = sz C e && Nat.ble 1 (sz C e) then cond (decide (0 ≤ n)) (cond (decide (n < xs.length)) (K (.vel k n.toNat 0) []) none) none else none
      | _ => none
    | some (.array len e), .glob g, .int _ n => match C.gl g with
      | some ⟨row, xs⟩ => if row.n = sz C e && Nat.ble 1 (sz C e) && xs.length == len && Nat.ble 2 len then (idx xs n).bind fun x => K (.ep row x 0) [] else none
      | none => none
    | some (.array len e), .loc k off, .int _ n => if Nat.ble 1 (sz C e) then cond (decide (0 ≤ n)) (cond (decide (n < len)) (K (.loc k (off + n.toNat * sz C e)) []) none) none else none
    | _, _, _ => none
  | .index t x i => match C.P.underlying t, st.ev x, st.ev i with
    | some .string, .str s, .int _ n => (sidx s n).bind fun c => K (.int .u8 c) []
    | some (.array len e), .agg ds, .int _ n => if decide (0 ≤ n) && decide (n < len) && Nat.ble 1 (sz C e) then (match cut (n.toNat * sz C e) (sz C e) ds with | some c => K (mk C e c) [] | none => none) else none
    | _, _, _ => none
  | .extract x i => match st.ev x with
    | .tup ds => match ds[i]? with | some d => K d [] | none => none
    | _ => none
  | .makeSlice t l c => fresh st dst (match rowOf C t, st.ev l, st.ev c with
    | some row, .int .i64 n, .int .i64 m => (match zeroT C t row with
      | some z => cond (decide (0 ≤ n)) (cond (decide (n ≤ (roomy : Int))) (cond (n == m) (K (.vec dst) [(dst, some (.vec row (List.replicate n.toNat z) false))]) none) none) none
      | none => none)
    | _, _, _ => none)
  | .call c => match c.callee, c.args.toList with
    | .builtin .len, [x] => (match c.argTypes[0]? with
      | some t => (match C.P.underlying t, st.ev x with
        | some .string, .str s => K (.int .i64 s.size) []
        | some (.slice _), .str _ => none
        | some (.slice _), d => lenK st d fun d => K d []
        | _, _ => none)
      | none => none)
    | .builtin .append, [x, y] => (match c.argTypes[0]?, c.argTypes[1]? with
      | some t, some u => (match C.P.underlying u with
        | some (.slice e) => if sz C e = elemSz C t then appendK C st dst t (st.ev x) (st.ev y) K else none
        | some .string => appendK C st dst t (st.ev x) (st.ev y) K
        | _ => none)
      | _, _ => none)
    | .builtin .min, [x, y] => (match st.ev x, st.ev y with | .int k a, .int k' b => if k = k' then K (.int k (if b < a then b else a)) [] else none | _, _ => none)
    | .builtin .max, [x, y] => (match st.ev x, st.ev y with | .int k a, .int k' b => if k = k' then K (.int k (if b > a then b else a)) [] else none | _, _ => none)
    | .value f, l => (match st.ev f with | .fn f => callK C st f (l.map st.ev) K | _ => none)
    | _, _ => none
  | _ => none
end

def tmpsOf (o : Op) : List Nat := o.operands.toList.filterMap fun | .tmp t => some t | _ => none

/-- Where an operation looks and writes. -/
structure Foot where
  rs : List Nat
  w : List Nat
  kr : List Nat
  kw : List Nat

def Foot.apart (a b : Foot) : Bool :=
  (a.w.all fun x => !(b.rs.any (Nat.beq x)) && !(b.w.any (Nat.beq x))) && (b.w.all fun x => !(a.rs.any (Nat.beq x))) &&
  (a.kw.all fun x => !(b.kr.any (Nat.beq x)) && !(b.kw.any (Nat.beq x))) && (b.kw.all fun x => !(a.kr.any (Nat.beq x)))

section
variable {R : Type} (C : Ctx)
def St.put (st : St) (dst : Option Nat) (d : D) : St := match dst with | some t => { st with sl := upd st.sl t d } | none => st
/-- An operation that is wanted, its state cut down to what it may look at. -/
def stepK (o : Oper) (st : St) (K : St → Foot → Option R) : Option R :=
  let ts := tmpsOf o.op
  let ks := ts.flatMap (fun t => (st.sl t).keys) ++ [o.dst.getD 0]
  cond (o.dst.all fun t => Nat.blt t C.nt) (coreK C o.op ⟨restr .unk ts st.sl, restr none ks st.bx⟩ (o.dst.getD 0) fun d us =>
    cond (us.all fun u => ks.any (Nat.beq u.1)) (K (St.put ⟨st.sl, puts us st.bx⟩ o.dst d) ⟨ts, o.dst.toList, ks, us.map (·.1)⟩) none) none
def skipped (o : Oper) (st : St) : St := st.put o.dst (.tup [])
def gslot (ops : Array Oper) (j : Nat) : Option Nat := (ops[j]?).bind (·.dst)

/-- Everything ahead of an operation, by the edges: a closure of few steps. -/
def aheadOf (ops : Array Oper) : Nat → List Nat → List Nat
  | 0, l => l
  | n + 1, l => aheadOf ops n (l ++ (l.flatMap fun i => (((ops[i]?).map fun o => o.after.toList.filterMap fun e => if Region.binds .any e && !(l.any (Nat.beq e.on)) then some e.on else none).getD [])))

/-- Whether what an operation touches keeps apart from all that went before, but for what is ahead of it anyway. -/
def apartOk (ops : Array Oper) (i : Nat) (f : Foot) (fs : List (Nat × Foot)) : Bool :=
  fs.all fun p => p.2.apart f || (aheadOf ops 6 [i]).any (Nat.beq p.1)
/-- The edges of an operation lead back. -/
def backOk (o : Oper) (i : Nat) : Bool := o.after.toList.all fun e => !Region.binds .any e || Nat.blt e.on i
def evOps (draw : Bool) (ops : Array Oper) : List Nat → List (Nat × Foot) → St → (St → Option R) → Option R
  | [], _, st, K => K st
  | i :: rest, fs, st, K => match ops[i]? with
    | none => none
    | some o =>
      match o.guard with
      | none => stepK C o st fun st' f =>
          cond (!draw || (backOk o i && apartOk ops i f fs)) (evOps draw ops rest (cond draw ((i, f) :: fs) fs) st' K) none
      | some (j, want) => match gslot ops j with
        | none => none
        | some t =>
          let skip (st : St) : Option R :=
            let f : Foot := ⟨[t], o.dst.toList, [], []⟩
            cond (o.dst.all fun t => Nat.blt t C.nt) (cond (!draw || (backOk o i && apartOk ops i f fs)) (evOps draw ops rest (cond draw ((i, f) :: fs) fs) (skipped o st) K) none) none
          match st.sl t with
          | .bool b => cond (b == want)
              (stepK C o { st with sl := upd st.sl t (.bool want) } fun st' f =>
                cond (!draw || (backOk o i && apartOk ops i { f with rs := t :: f.rs } fs)) (evOps draw ops rest (cond draw ((i, { f with rs := t :: f.rs }) :: fs) fs) st' K) none)
              (skip { st with sl := upd st.sl t (.bool (!want)) })
          | .tup _ => skip st
          | _ => none
end

/-- What of a slot lives on at a meeting of ways. -/
inductive L where
  | sh (v : V)
  | vec (row : Sh) (fz : Bool)
  | box (l : List (Sum Sh (Sh × Bool)))

@[reducible] def cellT : Sum Sh (Sh × Bool) → Type | .inl s => s.T | .inr p => List p.1.T
@[reducible] def cellsT : List (Sum Sh (Sh × Bool)) → Type
  | [] => Unit
  | c :: r => cellT c × cellsT r
@[reducible] def L.T : L → Type | .sh v => v.T | .vec row _ => List row.T | .box l => cellsT l
abbrev Live := List (Nat × L)
@[reducible] def LiveT : Live → Type
  | [] => Unit
  | p :: r => p.2.T × LiveT r

def cellKey (t j : Nat) : Nat := 100000 + t * 100 + j
def look {α : Type} (d : α) : List (Nat × α) → Nat → α
  | [], _ => d
  | p :: r, k => cond (Nat.beq k p.1) p.2 (look d r k)
/-- Back from data: what the slot or cell holds, and the boxes that it takes, by their keys. -/
def encCell (key : Nat) : (c : Sum Sh (Sh × Bool)) → cellT c → D × List (Nat × Option Bx)
  | .inl s, x => (one (enc s x), [])
  | .inr p, x => (.vec key, [(key, some (.vec p.1 x p.2))])
def encCells (t : Nat) : Nat → (l : List (Sum Sh (Sh × Bool))) → cellsT l → List D × List (Nat × Option Bx)
  | _, [], _ => ([], [])
  | j, c :: r, x => let a := encCell (cellKey t j) c x.1; let b := encCells t (j + 1) r x.2; (a.1 :: b.1, a.2 ++ b.2)
def encL (t : Nat) : (l : L) → l.T → D × List (Nat × Option Bx)
  | .sh v, x => (encV v x, [])
  | .vec row fz, x => (.vec t, [(t, some (.vec row x fz))])
  | .box l, x => let a := encCells t 0 l x; (.loc t 0, (t, some (.cells a.1)) :: a.2)
def encSlots : (l : Live) → LiveT l → List (Nat × D)
  | [], _ => []
  | p :: r, x => (p.1, (encL p.1 p.2 x.1).1) :: encSlots r x.2
def encBoxes : (l : Live) → LiveT l → List (Nat × Option Bx)
  | [], _ => []
  | p :: r, x => (encL p.1 p.2 x.1).2 ++ encBoxes r x.2
def encLive (l : Live) (x : LiveT l) : St := ⟨look .unk (encSlots l x), look none (encBoxes l x)⟩

/-- Where a box of the new state comes from: from one of the old, or from none. -/
inductive Src where
  | old (k : Nat) | nil (n : Nat)
def decCell (bx : Nat → Option Bx) (key : Nat) : (c : Sum Sh (Sh × Bool)) → D → Option (cellT c × List (Nat × Src))
  | .inl s, d => (decAll s [thaw1 bx d]).map fun x => (x, [])
  | .inr p, .nil => if p.1.n = 0 then none else some ([], [(key, .nil p.1.n)])
  | .inr p, .vec k => match bx k with
    | some (.vec row xs fz) => if h : row = p.1 then (if fz = p.2 then some ((castT h xs : List p.1.T), [(key, .old k)]) else none) else none
    | _ => none
  | .inr _, _ => none
def decCells (bx : Nat → Option Bx) (t : Nat) : Nat → (l : List (Sum Sh (Sh × Bool))) → List D → Option (cellsT l × List (Nat × Src))
  | _, [], [] => some ((), [])
  | j, c :: r, d :: ds => (decCell bx (cellKey t j) c d).bind fun x => (decCells bx t (j + 1) r ds).bind fun y => some ((x.1, y.1), x.2 ++ y.2)
  | _, _, _ => none
def decL (bx : Nat → Option Bx) (t : Nat) : (l : L) → D → Option (l.T × List (Nat × Src))
  | .sh v, d => (decV v (thaw bx d)).map fun x => (x, [])
  | .vec row fz, d => decCell bx t (.inr (row, fz)) d
  | .box l, .loc k off => if k = t && off == 0 then (match bx k with | some (.cells ds) => (decCells bx t 0 l ds).map fun x => (x.1, (t, .old k) :: x.2) | _ => none) else none
  | .box _, _ => none
def decAllL (st : St) : (l : Live) → Option (LiveT l × List (Nat × Src))
  | [] => some ((), [])
  | p :: r => (decL st.bx p.1 p.2 (st.sl p.1)).bind fun x => (decAllL st r).bind fun y => some ((x.1, y.1), x.2 ++ y.2)
/-- The growing rows that are data from now on, or that stay. -/
def vecsCell : Sum Sh (Sh × Bool) → D → List Nat
  | .inl _, d => d.vecs1
  | .inr p, d => cond p.2 d.vecs1 []
def vecsCells : List (Sum Sh (Sh × Bool)) → List D → List Nat
  | c :: r, d :: ds => vecsCell c d ++ vecsCells r ds
  | _, _ => []
def vecsL (bx : Nat → Option Bx) : L → D → List Nat
  | .sh _, d => d.vecs
  | .vec _ fz, d => cond fz d.vecs1 []
  | .box l, .loc k _ => match bx k with | some (.cells ds) => vecsCells l ds | _ => []
  | .box _, _ => []
def vecsLive (st : St) : Live → List Nat
  | [] => []
  | p :: r => vecsL st.bx p.2 (st.sl p.1) ++ vecsLive st r
def olds : List (Nat × Src) → List Nat
  | [] => []
  | (_, .old k) :: r => k :: olds r
  | _ :: r => olds r
def apartL : List Nat → Bool
  | [] => true
  | k :: r => !(r.any (Nat.beq k)) && apartL r
def decLive (st : St) (l : Live) : Option (LiveT l) :=
  (decAllL ⟨st.sl, puts (froze st.bx (vecsLive st l)) st.bx⟩ l).bind fun p =>
    cond (apartL (olds p.2) && apartL (p.2.map (·.1)) && apartL (l.map (·.1))) (some p.1) none

inductive Cut (T R : Type) where | go (x : T) | out (r : R)
def cutBind {T R : Type} (a : Option (Cut T R)) (f : T → Option R) : Option R :=
  a.bind fun c => Cut.casesOn c f some
def cutOut {T R : Type} (a : Option R) : Option (Cut T R) := a.map .out
def loopN {T R : Type} (s : (T → Option R) → T → Option R) : Nat → T → Option R
  | 0, _ => none
  | n + 1, x => s (loopN s n) x

inductive Ex where | normal | exit (id : Nat) | ret

/-- Where ways meet, and how long loops go at most. -/
inductive Hint where
  | auto
  | seq (cut : Option Live) (a b : Hint)
  | cond (a b : Hint)
  | block (a : Hint)
  | loop (l : Live) (μ : LiveT l → Nat) (a : Hint)

def Hint.fst : Hint → Hint | .cond x _ => x | _ => .auto
def Hint.snd : Hint → Hint | .cond _ y => y | _ => .auto
def Hint.blk : Hint → Hint | .block x => x | _ => .auto
section
variable (C : Ctx)
def evC : Code → {R : Type} → Hint → St → (Ex → St → Option R) → Option R
  | .skip, _, _, st, K => K .normal st
  | .region _ ops draw, _, _, st, K => evOps C draw ops (List.range ops.size) [] st (K .normal)
  | .seq a b, _, .seq (some l) ha hb, st, K =>
    cutBind (evC a ha st fun e st' => Ex.casesOn e ((decLive st' l).map .go) (fun id => cutOut (K (.exit id) st')) (cutOut (K .ret st'))) fun x => evC b hb (encLive l x) K
  | .seq a b, _, .seq none ha hb, st, K => evC a ha st fun e st' => Ex.casesOn e (evC b hb st' K) (fun id => K (.exit id) st') (K .ret st')
  | .seq a b, _, _, st, K => evC a .auto st fun e st' => Ex.casesOn e (evC b .auto st' K) (fun id => K (.exit id) st') (K .ret st')
  | .cond c a b, _, h, st, K => match st.ev c with
    | .bool t => cond t (evC a h.fst st K) (evC b h.snd st K)
    | _ => none
  | .block id a, _, h, st, K => evC a h.blk st fun e st' => Ex.casesOn e (K .normal st') (fun i => cond (Nat.beq i id) (K .normal st') (K (.exit i) st')) (K .ret st')
  | .loop a, _, .loop l μ ha, st, K => (decLive st l).bind fun x =>
    loopN (fun rec x => evC a ha (encLive l x) fun e st' => Ex.casesOn e ((decLive st' l).bind rec) (fun id => K (.exit id) st') (K .ret st')) (μ x) x
  | .exit id, _, _, st, K => K (.exit id) st
  | .ret, _, _, st, K => K .ret st
  | _, _, _, _, _ => none

def resD1 (st : St) : ResultVar → Option D
  | .tmp t => some (st.sl t)
  | .cell a t => loadK C st (st.sl a) t some
def resDs (fn : Func) (st : St) : Option (List D) :=
  (fn.results.toList.mapM (resD1 C st)).map fun ds => ds.map (thaw (puts (froze st.bx (ds.flatMap D.vecs)) st.bx))
/-- What a function computes. -/
def evF (fn : Func) (c : Code) (h : Hint) (a r : List V) (x : VsT a) : Option (VsT r) :=
  evC C c h ⟨fun i => ((encVs a x)[i]?).getD .unk, fun _ => none⟩ fun e st =>
    Ex.casesOn e ((resDs C fn st).bind (decVs r)) (fun _ => none) ((resDs C fn st).bind (decVs r))
end
end Go.Proofs.YtaldfmbnfnagjaaDoor.E
