import Derived.WalkKit
import Derived.Laws.Closers25b
import Derived.Laws.Entries
import Derived.Laws.Strings
import Derived.Laws.StructEq
import Derived.ChangeKeysEq
namespace Go.RX

/-- Data of Go as plain values: a slice is the list of its elements, each as the list of its cells. -/
inductive D where
  | bool (b : Bool)
  | int (n : Int)
  | str (s : List UInt8)
  | sl (es : List (List D))
  | agg (cs : List D)
  deriving Inhabited

def D.toBool : D → Bool | .bool b => b | _ => false
def D.toInt : D → Int | .int n => n | _ => 0
def D.toStr : D → List UInt8 | .str s => s | _ => []
def D.toSl : D → List (List D) | .sl es => es | _ => []
def D.aggL : D → List D | .agg cs => cs | _ => []
def D.cells : D → List D | .agg cs => cs | d => [d]

/-- Integer operators, as the model reckons them. -/
def binI (op : BinOp) (k : IntKind) (a b : Int) : Int :=
  match op with
  | .add => k.wrap (a + b)
  | .sub => k.wrap (a - b)
  | .mul => k.wrap (a * b)
  | .quo => k.wrap (a.tdiv b)
  | .rem => a.tmod b
  | .and => k.wrap (BitVec.ofInt k.bits a &&& BitVec.ofInt k.bits b).toNat
  | .or => k.wrap (BitVec.ofInt k.bits a ||| BitVec.ofInt k.bits b).toNat
  | .xor => k.wrap (BitVec.ofInt k.bits a ^^^ BitVec.ofInt k.bits b).toNat
  | .andNot => k.wrap (BitVec.ofInt k.bits a &&& ~~~ (BitVec.ofInt k.bits b)).toNat
  | .shl => k.wrap (a * 2 ^ (min b.toNat k.bits))
  | .shr => a.fdiv (2 ^ (min b.toNat k.bits))
  | _ => 0
def cmpI (op : BinOp) (a b : Int) : Bool :=
  match op with
  | .eql => a == b
  | .neq => a != b
  | .lss => decide (a < b)
  | .leq => decide (a ≤ b)
  | .gtr => decide (a > b)
  | .geq => decide (a ≥ b)
  | _ => false
def cmpS (op : BinOp) (x y : List UInt8) : Bool :=
  match op with
  | .eql => x == y
  | .neq => !(x == y)
  | .lss => Op.bytesLess x y
  | .leq => Op.bytesLess x y || x == y
  | .gtr => !(Op.bytesLess x y || x == y)
  | .geq => !(Op.bytesLess x y)
  | _ => false
/-- Symbolic expressions over the variables bound so far. -/
inductive X where
  | var (i : Nat) | hole
  | bool (b : Bool) | int (n : Int) | str (s : List UInt8)
  | nil | cons (a b : X)
  | fld (a : X) (i : Nat) | sub (a : X) (off n : Nat)
  | bin (op : BinOp) (k : IntKind) (a b : X) | cmp (op : BinOp) (a b : X) | wrap (k : IntKind) (a : X)
  | beq (a b : X) | not (a : X) | and (a b : X) | or (a b : X) | ite (c a b : X)
  | scmp (op : BinOp) (a b : X) | scat (a b : X) | slen (a : X) | sidx (a i : X) | ssub (a lo hi : X)
  | len (a : X) | idx (a i : X) | lit (a : X) | app (a b : X) | tk (a lo hi : X) | upd (a i : X) (off : Nat) (cs : X) | rep (n cs : X)
  | ruc (a i : X) | ruw (a i : X) | mget (m k d : X) | mput (m k v : X)
  | fits (a b : X) (bytes : Nat) | sfits (a b : X) | s2b (a : X) | b2s (a : X)
  deriving DecidableEq, Inhabited

def setCells (cs : List D) (off : Nat) : List D → List D
  | [] => cs
  | d :: ds => setCells (cs.set off d) (off + 1) ds

/-- a string's bytes as the model's string -/
def bytesArr (s : List UInt8) : ByteArray := ⟨s.toArray⟩
/-- a map as the list of its entries, each its key and its value; keys are compared by their numbers -/
def keyEq (a b : D) : Bool := a.aggL.map D.toInt == b.aggL.map D.toInt
def mapGet (m : List (List D)) (k d : D) : D :=
  match m.find? (fun e => keyEq (e.headD default) k) with
  | some e => e.getD 1 default
  | none => d
def mapPut : List (List D) → D → D → List (List D)
  | [], k, v => [[k, v]]
  | e :: m, k, v => if keyEq (e.headD default) k then [k, v] :: m else e :: mapPut m k v

def X.den : X → List D → D
  | .var i, ρ => ρ.getD i default
  | .hole, _ => default
  | .bool b, _ => .bool b
  | .int n, _ => .int n
  | .str s, _ => .str s
  | .nil, _ => .agg []
  | .cons a b, ρ => .agg (a.den ρ :: (b.den ρ).aggL)
  | .fld a i, ρ => (a.den ρ).aggL.getD i default
  | .sub a off n, ρ => .agg (((a.den ρ).aggL.drop off).take n)
  | .bin op k a b, ρ => .int (binI op k (a.den ρ).toInt (b.den ρ).toInt)
  | .cmp op a b, ρ => .bool (cmpI op (a.den ρ).toInt (b.den ρ).toInt)
  | .wrap k a, ρ => .int (k.wrap (a.den ρ).toInt)
  | .beq a b, ρ => .bool ((a.den ρ).toBool == (b.den ρ).toBool)
  | .not a, ρ => .bool (!(a.den ρ).toBool)
  | .and a b, ρ => .bool ((a.den ρ).toBool && (b.den ρ).toBool)
  | .or a b, ρ => .bool ((a.den ρ).toBool || (b.den ρ).toBool)
  | .ite c a b, ρ => bif (c.den ρ).toBool then a.den ρ else b.den ρ
  | .scmp op a b, ρ => .bool (cmpS op (a.den ρ).toStr (b.den ρ).toStr)
  | .scat a b, ρ => .str ((a.den ρ).toStr ++ (b.den ρ).toStr)
  | .slen a, ρ => .int (a.den ρ).toStr.length
  | .sidx a i, ρ => .int ((a.den ρ).toStr.getD (i.den ρ).toInt.toNat 0).toNat
  | .ssub a lo hi, ρ => .str (((a.den ρ).toStr.take (hi.den ρ).toInt.toNat).drop (lo.den ρ).toInt.toNat)
  | .len a, ρ => .int (a.den ρ).toSl.length
  | .idx a i, ρ => .agg ((a.den ρ).toSl.getD (i.den ρ).toInt.toNat [])
  | .lit a, ρ => .sl ((a.den ρ).aggL.map D.aggL)
  | .app a b, ρ => .sl ((a.den ρ).toSl ++ (b.den ρ).toSl)
  | .tk a lo hi, ρ => .sl (((a.den ρ).toSl.take (hi.den ρ).toInt.toNat).drop (lo.den ρ).toInt.toNat)
  | .upd a i off cs, ρ => .sl ((a.den ρ).toSl.modify (i.den ρ).toInt.toNat fun e => setCells e off (cs.den ρ).aggL)
  | .rep n cs, ρ => .sl (List.replicate (n.den ρ).toInt.toNat (cs.den ρ).aggL)
  | .ruc a i, ρ => .int (Utf8.decode (bytesArr (a.den ρ).toStr) (i.den ρ).toInt.toNat).1
  | .ruw a i, ρ => .int (Utf8.decode (bytesArr (a.den ρ).toStr) (i.den ρ).toInt.toNat).2
  | .mget m k d, ρ => mapGet (m.den ρ).toSl (k.den ρ) (d.den ρ)
  | .mput m k v, ρ => .sl (mapPut (m.den ρ).toSl (k.den ρ) (v.den ρ))
  | .fits a b bytes, ρ => .bool (decide (((a.den ρ).toSl.length + (b.den ρ).toSl.length) * bytes ≤ 140737488355328))
  | .sfits a b, ρ => .bool (decide ((a.den ρ).toStr.length + (b.den ρ).toStr.length ≤ 9223372036854775807))
  | .s2b a, ρ => .sl ((a.den ρ).toStr.map fun c => [.int c.toNat])
  | .b2s a, ρ => .str ((a.den ρ).toSl.map fun e => UInt8.ofNat (e.headD default).toInt.toNat)

/-- Functional code. Leaves 'lf': a leaf of the executor's own; 'y j xs': label j, with values. -/
inductive T where
  | lf (i : Nat)
  | y (j : Nat) (xs : X)
  | ite (c : X) (a b : T)
  | chk (c : X) (k : T)
  | call (cid : Nat) (args : X) (ks : T)
  | bind (s ks : T)
  | loop (init : X) (body ks : T)
  | alt (k r : T)
  | nil
  deriving DecidableEq, Inhabited

def iter (body : List D → Option (Nat × List D)) : Nat → List D → Option (Nat × List D)
  | 0, _ => none
  | n + 1, st => match body st with
    | some (0, st') => iter body n st'
    | r => r

open Classical in
noncomputable def loopD (body : List D → Option (Nat × List D)) (st : List D) : Option (Nat × List D) :=
  if h : ∃ n, (iter body n st).isSome then iter body (Classical.choose h) st else none

noncomputable def T.den (Φ : Nat → List D → Option (Nat × List D)) : T → Nat → List D → Option (Nat × List D)
  | .lf i, _, ρ => some (i, ρ)
  | .y j xs, _, ρ => some (j, (xs.den ρ).aggL)
  | .ite c a b, _, ρ => bif (c.den ρ).toBool then a.den Φ 0 ρ else b.den Φ 0 ρ
  | .chk c k, _, ρ => bif (c.den ρ).toBool then k.den Φ 0 ρ else none
  | .call cid args ks, _, ρ => (Φ cid (args.den ρ).aggL).bind fun r => ks.den Φ r.1 (ρ ++ r.2)
  | .bind s ks, _, ρ => (s.den Φ 0 ρ).bind fun r => ks.den Φ r.1 (ρ ++ r.2)
  | .loop init body ks, _, ρ => (loopD (fun st => body.den Φ 0 (ρ ++ st)) (init.den ρ).aggL).bind fun r =>
      match r.1 with
      | 0 => none
      | j + 1 => ks.den Φ j (ρ ++ r.2)
  | .alt k _, 0, ρ => k.den Φ 0 ρ
  | .alt _ r, j + 1, ρ => r.den Φ j ρ
  | .nil, _, _ => none

/-- Symbolic values: what a frame's slot or a cell holds. 'nil', 'cons': lists of such. -/
inductive SV where
  | any | undef
  | x (a : X) (t : TypeId)
  | nil | cons (a b : SV)
  | agg (cs : SV) | tup (vs : SV)
  | own (r : Nat) | ptr (o off : Nat) | nilp | nils
  | full (a : X) (t : TypeId)
  | iptr (e : TypeId) (a : X) (off : Nat)
  | rptr (e : TypeId) (r : Nat) (i : X) (off : Nat)
  | clo (f : FuncId) (first caps : SV) | nilf
  | nili | ifv
  | lits (es : SV) | lptr (v : SV)
  | mp (o : Nat)
  deriving DecidableEq, Inhabited

inductive SObj where
  | dead
  | box (cells : SV)
  | rbox (cells : SV)
  | row (e : TypeId) (c : X) (wr : Bool)
  | siter (s pos : X)
  | map (k v : TypeId) (c : X)
  deriving DecidableEq, Inhabited

structure SSt where
  env : List SV
  heap : List SObj
  nv : Nat
  facts : List (X × Bool) := []
  deriving Inhabited, DecidableEq

end Go.RX
namespace Go.RX

def X.ofL : List X → X | [] => .nil | a :: l => .cons a (X.ofL l)
def X.toL : X → Option (List X)
  | .nil => some []
  | .cons a b => b.toL.map (a :: ·)
  | _ => none
def SV.toL : SV → List SV | .cons a b => a :: b.toL | _ => []
def SV.ofL : List SV → SV | [] => .nil | a :: l => .cons a (SV.ofL l)

section types
variable (P : Program)
def isAg (t : TypeId) : Bool :=
  match P.underlying t with
  | some (.struct _) | some (.array _ _) => true
  | _ => false
def cellTysN : Nat → TypeId → List TypeId
  | 0, _ => []
  | n + 1, t => match P.underlying t with
    | some (.struct fs) => fs.toList.flatMap fun f => cellTysN n f.type
    | some (.array len e) => (List.replicate len (cellTysN n e)).flatten
    | _ => [t]
def cellTys (t : TypeId) : List TypeId := cellTysN P 8 t
def sizeOf' (t : TypeId) : Option Nat := (P.info? t).map (·.size)
/-- the model's size of a type is that of its cells -/
def sizeOk (t : TypeId) : Bool := sizeOf' P t == some (cellTys P t).length && (P.underlying t).isSome
def elemTy (t : TypeId) : Option TypeId := match P.underlying t with | some (.slice e) => some e | _ => none
def intKind (t : TypeId) : Option IntKind := match P.underlying t with | some (.int k) => some k | _ => none
def isBool (t : TypeId) : Bool := match P.underlying t with | some .bool => true | _ => false
def isStr (t : TypeId) : Bool := match P.underlying t with | some .string => true | _ => false
def bytesOf' (t : TypeId) : Option Nat := (P.info? t).map (·.bytes)
def sameTy (t u : TypeId) : Bool :=
  t == u || (isAg P t && isAg P u && cellTys P t == cellTys P u) ||
  match P.underlying t, P.underlying u with
  | some (.int k), some (.int k') => k == k'
  | some .bool, some .bool => true
  | some .string, some .string => true
  | some (.slice e), some (.slice e') => e == e'
  | _, _ => false
/-- where a struct's field lies, as the cells before it tell -/
def fieldAt' (s : TypeId) (f : Nat) : Option (Nat × TypeId) :=
  match P.underlying s with
  | some (.struct fs) => match fs[f]? with
    | some fd => if fd.offset == ((fs.toList.take f).flatMap fun g => cellTys P g.type).length && (cellTys P s == fs.toList.flatMap fun g => cellTys P g.type) then some (fd.offset, fd.type) else none
    | none => none
  | _ => none
end types

/-! Constructors that make expressions smaller. -/
def X.mkFld (a : X) (i : Nat) : X :=
  match a with
  | .cons b c => match i with
    | 0 => b
    | i + 1 => c.mkFld i
  | .sub b off n => if i < n then .fld b (off + i) else .fld a i
  | _ => .fld a i
def X.takeC : X → Nat → Option X
  | _, 0 => some .nil
  | .cons a b, n + 1 => (b.takeC n).map (.cons a)
  | _, _ => none
def X.dropC : X → Nat → Option X
  | a, 0 => some a
  | .cons _ b, n + 1 => b.dropC n
  | _, _ => none
def X.mkSub (a : X) (off n : Nat) : X :=
  match (a.dropC off).bind (·.takeC n) with
  | some b => b
  | none => .sub a off n
def X.mkCmp (op : BinOp) (a b : X) : X :=
  match a, b with
  | .int m, .int n => .bool (cmpI op m n)
  | a, b => .cmp op a b
def X.mkBin (op : BinOp) (k : IntKind) (a b : X) : X :=
  match a, b with
  | .int m, .int n => .int (binI op k m n)
  | a, b => .bin op k a b
def X.mkNot : X → X
  | .bool b => .bool (!b)
  | .not a => .not (.not a)
  | a => .not a
def X.mkIte (c a b : X) : X :=
  match c with
  | .bool true => a
  | .bool false => b
  | c => .ite c a b
def X.mkLen (a : X) : X :=
  match a with
  | .lit l => match l.toL with
    | some es => .int es.length
    | none => .len a
  | a => .len a
def X.mkAnd' (a b : X) : X :=
  match b with
  | .bool true => a
  | b => .and a b
/-- all variables are below n, and no hole is there -/
def X.closed (n : Nat) : X → Bool
  | .var i => i < n
  | .hole => false
  | .bool _ | .int _ | .str _ | .nil => true
  | .cons a b | .bin _ _ a b | .cmp _ a b | .beq a b | .and a b | .or a b | .scmp _ a b | .scat a b | .sidx a b | .idx a b | .app a b | .rep a b | .fits a b _ | .sfits a b | .ruc a b | .ruw a b => a.closed n && b.closed n
  | .fld a _ | .sub a _ _ | .wrap _ a | .not a | .slen a | .len a | .lit a | .s2b a | .b2s a => a.closed n
  | .ite a b c | .ssub a b c | .tk a b c | .mget a b c | .mput a b c | .upd a b _ c => a.closed n && b.closed n && c.closed n
def X.map (f : Nat → X) : X → X
  | .var i => f i
  | .hole => .hole
  | .bool b => .bool b | .int n => .int n | .str s => .str s | .nil => .nil
  | .cons a b => .cons (a.map f) (b.map f)
  | .bin op k a b => .bin op k (a.map f) (b.map f)
  | .cmp op a b => .cmp op (a.map f) (b.map f)
  | .beq a b => .beq (a.map f) (b.map f)
  | .and a b => .and (a.map f) (b.map f)
  | .or a b => .or (a.map f) (b.map f)
  | .scmp op a b => .scmp op (a.map f) (b.map f)
  | .scat a b => .scat (a.map f) (b.map f)
  | .sidx a b => .sidx (a.map f) (b.map f)
  | .idx a b => .idx (a.map f) (b.map f)
  | .app a b => .app (a.map f) (b.map f)
  | .rep a b => .rep (a.map f) (b.map f)
  | .fits a b n => .fits (a.map f) (b.map f) n
  | .sfits a b => .sfits (a.map f) (b.map f)
  | .ruc a b => .ruc (a.map f) (b.map f)
  | .ruw a b => .ruw (a.map f) (b.map f)
  | .mget a b c => .mget (a.map f) (b.map f) (c.map f)
  | .mput a b c => .mput (a.map f) (b.map f) (c.map f)
  | .fld a i => .fld (a.map f) i
  | .sub a i n => .sub (a.map f) i n
  | .wrap k a => .wrap k (a.map f)
  | .not a => .not (a.map f)
  | .slen a => .slen (a.map f)
  | .len a => .len (a.map f)
  | .lit a => .lit (a.map f)
  | .s2b a => .s2b (a.map f)
  | .b2s a => .b2s (a.map f)
  | .ite a b c => .ite (a.map f) (b.map f) (c.map f)
  | .ssub a b c => .ssub (a.map f) (b.map f) (c.map f)
  | .tk a b c => .tk (a.map f) (b.map f) (c.map f)
  | .upd a b i c => .upd (a.map f) (b.map f) i (c.map f)

def SV.map (f : Nat → X) (g : Nat → Nat) : SV → SV
  | .any => .any
  | .undef => .undef
  | .mp o => .mp (g o)
  | .x a t => .x (a.map f) t
  | .nil => .nil
  | .cons a b => .cons (a.map f g) (b.map f g)
  | .agg cs => .agg (cs.map f g)
  | .tup cs => .tup (cs.map f g)
  | .own r => .own (g r)
  | .ptr o off => .ptr (g o) off
  | .nilp => .nilp
  | .nils => .nils
  | .full a t => .full (a.map f) t
  | .iptr e a off => .iptr e (a.map f) off
  | .rptr e r i off => .rptr e (g r) (i.map f) off
  | .clo h first caps => .clo h (first.map f g) (caps.map f g)
  | .nilf => .nilf
  | .nili => .nili
  | .ifv => .ifv
  | .lits es => .lits (es.map f g)
  | .lptr v => .lptr (v.map f g)
def SObj.mapv (f : Nat → X) (g : Nat → Nat) : SObj → SObj
  | .dead => .dead
  | .box cs => .box (cs.map f g)
  | .rbox cs => .rbox (cs.map f g)
  | .row e c wr => .row e (c.map f) wr
  | .siter a b => .siter (a.map f) (b.map f)
  | .map k v c => .map k v (c.map f)

/-! Heaps: objects by number; what was never laid is dead. -/
def hget (H : List SObj) (o : Nat) : SObj := H.getD o .dead
def hset : List SObj → Nat → SObj → List SObj
  | [], 0, ob => [ob]
  | [], n + 1, ob => .dead :: hset [] n ob
  | _ :: H, 0, ob => ob :: H
  | a :: H, n + 1, ob => a :: hset H n ob
def hsets (H : List SObj) : List (Nat × SObj) → List SObj
  | [] => H
  | (n, ob) :: l => hsets (hset H n ob) l

/-! Values and cells. -/
section ops
variable (P : Program)

/-- A constant as a symbolic value of a type. -/
def ofConst (v : Value) (t : TypeId) : SV :=
  match v with
  | .bool b => if isBool P t then .x (.bool b) t else .any
  | .int k n => if intKind P t == some k && decide (k.min ≤ n) && decide (n ≤ k.max) then .x (.int n) t else .any
  | .string s => if isStr P t && decide (s.data.toList.length ≤ 1000000) then .x (.str s.data.toList) t else .any
  | .slice none 0 0 => .nils
  | .pointer none => .nilp
  | .nilFunc => .nilf
  | .nilIface => .nili
  | _ => .any
def ofConsts : List Value → List TypeId → List SV
  | v :: vs, t :: ts => ofConst P v t :: ofConsts vs ts
  | _, _ => []
/-- The cells of a zero value. -/
def zeroCells (t : TypeId) : Option (List SV) :=
  match P.info? t with
  | some i => match i.zero with
    | some (.agg cs) => if cs.size == (cellTys P t).length then some (ofConsts P cs.toList (cellTys P t)) else none
    | some v => match v with | .tuple _ => none | v => some [ofConst P v t]
    | none => none
  | none => none
/-- the zero value has its type's cells -/
def zeroOk (t : TypeId) : Bool := match zeroCells P t with | some z => z.length == (cellTys P t).length | none => false
/-- what the facts say of a truth -/
def known (fs : List (X × Bool)) (v : SV) : SV :=
  match v with
  | .x a t => match fs.find? (fun q => q.1 == a) with
    | some q => if isBool P t then .x (.bool q.2) t else .x a t
    | none => .x a t
  | v => v
def opv (S : SSt) (o : Operand) (t : TypeId) : SV :=
  match o with
  | .tmp i => known P S.facts (S.env.getD i .any)
  | .const v => match v with
    | .agg cs => if cs.size == (cellTys P t).length then .agg (.ofL (ofConsts P cs.toList (cellTys P t))) else .any
    | v => ofConst P v t
  | .func f => .clo f .nil .nil
  | .global _ => .any
/-- an integer operand's expression -/
def opInt (S : SSt) (o : Operand) : Option X :=
  match o with
  | .const (.int _ n) => some (.int n)
  | .tmp i => match S.env.getD i .any with
    | .x a t => if (intKind P t).isSome then some a else none
    | _ => none
  | _ => none
def expand (a : X) : List TypeId → Nat → List SV
  | [], _ => []
  | t :: ts, i => .x (a.mkFld i) t :: expand a ts (i + 1)
/-- one cell -/
def oneCell : SV → Bool
  | .own _ | .ptr _ _ | .nilp | .nils | .full _ _ | .iptr _ _ _ | .rptr _ _ _ _ | .clo _ _ _ | .nilf | .nili | .ifv | .lits _ | .lptr _ | .mp _ => true
  | _ => false
/-- a cell may hold it -/
def storable (v : SV) : Bool :=
  match v with
  | .x _ t => !isAg P t
  | v => oneCell v
/-- A value's cells. -/
def cellsOf (v : SV) : Option (List SV) :=
  match v with
  | .agg cs => some cs.toL
  | .x a t => if isAg P t then some (expand a (cellTys P t) 0) else some [.x a t]
  | v => if oneCell v then some [v] else none
/-- One cell as data of a type, and the owned row that is frozen by it. -/
def dataCell (H : List SObj) (v : SV) (t : TypeId) : Option (X × List Nat) :=
  match v with
  | .x a u => if sameTy P t u && !isAg P t then some (a, []) else none
  | .full a u => if sameTy P t u then some (a, []) else none
  | .nils => if (elemTy P t).isSome then some (.lit .nil, []) else none
  | .own r => match hget H r with
    | .row e c _ => if elemTy P t == some e then some (c, [r]) else none
    | _ => none
  | _ => none
def dataCells (H : List SObj) : List SV → List TypeId → Option (X × List Nat)
  | [], [] => some (.nil, [])
  | v :: vs, t :: ts => match dataCell P H v t, dataCells H vs ts with
    | some (a, f), some (b, g) => some (.cons a b, f ++ g)
    | _, _ => none
  | _, _ => none
/-- A value as data of a type. -/
def dataOf (H : List SObj) (v : SV) (t : TypeId) : Option (X × List Nat) :=
  if isAg P t then
    match v with
    | .x a u => if sameTy P t u then some (a, []) else none
    | .agg cs => dataCells P H cs.toL (cellTys P t)
    | _ => none
  else dataCell P H v t
/-- rows that are frozen -/
def frost (H : List SObj) : List Nat → List (Nat × SObj)
  | [] => []
  | r :: l => match hget H r with
    | .row e c _ => (r, .row e c false) :: frost H l
    | _ => frost H l

structure Out where
  chks : List X := []
  val : SV := .any
  sets : List (Nat × SObj) := []

def setRange (l : List SV) (off : Nat) : List SV → List SV
  | [] => l
  | v :: vs => setRange (l.set off v) (off + 1) vs

/-- the equality of two struct values, cell by cell -/
def eqCells : List SV → List SV → List TypeId → Option X
  | [], [], [] => some (.bool true)
  | .x a t :: as, .x b u :: bs, c :: cs =>
    match eqCells as bs cs with
    | none => none
    | some r =>
      if sameTy P t c && sameTy P u c then
        (if (intKind P c).isSome then some (X.mkAnd' (X.mkCmp .eql a b) r) else if isBool P c then some (X.mkAnd' (.beq a b) r) else if isStr P c then some (X.mkAnd' (.scmp .eql a b) r) else none)
      else none
  | _, _, _ => none
/-- a type whose values are equal where their cells are -/
def eqOk : Nat → TypeId → Bool
  | 0, _ => false
  | n + 1, t => match P.underlying t with
    | some (.struct fs) => !P.stoodInHeld t && eqFieldsOk (fun u => eqOk n u && sizeOf' P u == some (cellTysN P n u).length) (fun u => (cellTysN P n u).length) 0 fs.toList
    | some (.int _) | some .bool | some .string => true
    | _ => false
  where
  eqFieldsOk (ok : TypeId → Bool) (len : TypeId → Nat) : Nat → List Field → Bool
  | _, [] => true
  | off, f :: fs => f.name != "_" && f.offset == off && ok f.type && eqFieldsOk ok len (off + len f.type) fs
def eqTy (t : TypeId) : Bool := isAg P t && eqOk P 8 t && !P.eqGuardType P.depth t

def isPtrTy (t : TypeId) : Bool := match P.underlying t with | some (.pointer _) => true | _ => false
def isFuncTy (t : TypeId) : Bool := match P.underlying t with | some (.func _ _ _) => true | _ => false
def isIfTy (t : TypeId) : Bool := match P.underlying t with | some (.interface _) => true | _ => false
def isConstO : Operand → Bool | .const _ => true | _ => false
/-- a struct or an array -/
def isAgSV : SV → Bool
  | .agg _ => true
  | .x _ t => isAg P t
  | _ => false
def isCmp : BinOp → Bool
  | .eql | .neq | .lss | .leq | .gtr | .geq => true
  | _ => false
def negIf (op : BinOp) (v : X) : X := if op == .neq then v.mkNot else v
def symBin (S : SSt) (op : BinOp) (xt : TypeId) (x y : Operand) (yt : TypeId) (rt0 : TypeId) : Option Out :=
  let rt := if isCmp op && !isBool P rt0 then P.rt.bool else rt0
  let a := opv P S x xt
  let b := opv P S y yt
  match a, b with
  | .x a t, .x b u =>
    match intKind P t, intKind P u with
    | some k, some k' =>
      if isCmp op then
        if k == k' && isBool P rt then some { val := .x (X.mkCmp op a b) rt } else none
      else if op == .shl || op == .shr then
        if intKind P rt == some k then some { chks := if k'.signed then [X.mkCmp .geq b (.int 0)] else [], val := .x (X.mkBin op k a b) rt } else none
      else if op == .quo || op == .rem then
        if k == k' && intKind P rt == some k then some { chks := [X.mkCmp .neq b (.int 0)], val := .x (X.mkBin op k a b) rt } else none
      else if k == k' && intKind P rt == some k then some { val := .x (X.mkBin op k a b) rt } else none
    | _, _ =>
      if isStr P t && isStr P u then
        if op == .add then (if isStr P rt then some { chks := [.sfits a b], val := .x (.scat a b) rt } else none)
        else if isCmp op && isBool P rt then some { val := .x (.scmp op a b) rt } else none
      else if isBool P t && isBool P u && (op == .eql || op == .neq) && isBool P rt && isBool P xt then some { val := .x (negIf op (.beq a b)) rt }
      else if eqTy P xt && isAgSV P (.x a t) && isAgSV P (.x b u) && (op == .eql || op == .neq) && isBool P rt then
        match cellsOf P (.x a t), cellsOf P (.x b u) with
        | some cs, some ds => match eqCells P cs ds (cellTys P xt) with
          | some e => some { val := .x (negIf op e) rt }
          | none => none
        | _, _ => none
      else none
  | .ptr _ _, .nilp | .nilp, .ptr _ _ => if (op == .eql || op == .neq) && isBool P rt && isPtrTy P xt then some { val := .x (.bool (op == .neq)) rt } else none
  | .clo _ _ _, .nilf | .nilf, .clo _ _ _ => if (op == .eql || op == .neq) && isBool P rt && isFuncTy P xt then some { val := .x (.bool (op == .neq)) rt } else none
  | .ifv, .nili | .nili, .ifv => if (op == .eql || op == .neq) && isBool P rt && isIfTy P xt then some { val := .x (.bool (op == .neq)) rt } else none
  | .nili, .nili => if (op == .eql || op == .neq) && isBool P rt && (isConstO x || isConstO y) && isIfTy P xt then some { val := .x (.bool (op == .eql)) rt } else none
  | a, b =>
    if eqTy P xt && isAgSV P a && isAgSV P b && (op == .eql || op == .neq) && isBool P rt then
      match cellsOf P a, cellsOf P b with
      | some cs, some ds => match eqCells P cs ds (cellTys P xt) with
        | some e => some { val := .x (negIf op e) rt }
        | none => none
      | _, _ => none
    else none

/-- places of struct fields, as (offset, type) -/
def partPlace (t : TypeId) (i : Nat) : Option (Nat × TypeId) :=
  match P.underlying t with
  | some (.struct fs) => match fs[i]? with
    | some f => some (f.offset, f.type)
    | none => none
  | some (.array n e) => if i < n then some (i * (cellTys P e).length, e) else none
  | _ => none
/-- the sizes of the parts are known -/
def placesOk (t : TypeId) : Bool :=
  match P.underlying t with
  | some (.struct fs) => fs.toList.all fun f => (P.info? f.type).isSome
  | some (.array _ e) => (P.info? e).isSome
  | _ => false
def fillParts (S : SSt) (place : Nat → Option (Nat × TypeId)) : List SV → List (Nat × Operand) → Option (List SV)
  | cs, [] => some cs
  | cs, (i, o) :: r => match place i with
    | none => none
    | some (off, u) => match cellsOf P (opv P S o u) with
      | none => none
      | some vs => if sizeOk P u && vs.length == (cellTys P u).length && off + vs.length ≤ cs.length then fillParts S place (setRange cs off vs) r else none
def group (n : Nat) : Nat → List SV → List (List SV)
  | 0, _ => []
  | k + 1, l => l.take n :: group n k (l.drop n)
def dataRows (H : List SObj) (ts : List TypeId) : List (List SV) → Option (X × List Nat)
  | [] => some (.nil, [])
  | r :: rs => match dataCells P H r ts, dataRows H ts rs with
    | some (a, f), some (b, g) => some (.cons a b, f ++ g)
    | _, _ => none

/-- what is read of data's cells -/
def partOf (a : X) (ts : List TypeId) (off : Nat) (t : TypeId) : Option SV :=
  let n := (cellTys P t).length
  let us := (ts.drop off).take n
  if isAg P t then (if us == cellTys P t then some (.x (if off == 0 && n == ts.length && n != 0 then a else a.mkSub off n) t) else none)
  else match us with
    | [u] => if sameTy P u t then some (.x (a.mkFld off) t) else none
    | _ => none
def partSV (cs : List SV) (off : Nat) (t : TypeId) : Option SV :=
  let n := (cellTys P t).length
  let l := (cs.drop off).take n
  if l.length == n then
    if isAg P t then some (.agg (.ofL l)) else match l with | [v] => some v | _ => none
  else none
def symLoad (S : SSt) (t : TypeId) (p : SV) : Option Out :=
  if !sizeOk P t then none else
  match p with
  | .ptr o off => match hget S.heap o with
    | .box cs | .rbox cs => (partSV P cs.toL off t).map fun v => { val := v }
    | _ => none
  | .iptr e a off => (partOf P a (cellTys P e) off t).map fun v => { val := v }
  | .lptr v => if isAg P t then none else some { val := v }
  | .rptr e r i off => match hget S.heap r with
    | .row e' c _ => if e == e' then (partOf P (.idx c i) (cellTys P e) off t).map fun v => { val := v } else none
    | _ => none
  | _ => none

def symStore (S : SSt) (t : TypeId) (p v : SV) : Option Out :=
  let n := (cellTys P t).length
  if !sizeOk P t then none else
  match p with
  | .ptr o off => match hget S.heap o with
    | .box cs => match cellsOf P v with
      | some vs => if vs.length == n && off + n ≤ cs.toL.length && vs.all (storable P) then some { sets := [(o, .box (.ofL (setRange cs.toL off vs)))] } else none
      | none => none
    | _ => none
  | .rptr e r i off => match hget S.heap r with
    | .row e' c true => if e == e' && n != 0 && ((cellTys P e).drop off).take n == cellTys P t then
        match cellsOf P v with
        | some vs => match dataCells P S.heap vs (cellTys P t) with
          | some (a, fr) => if fr.contains r then none else some { sets := frost S.heap fr ++ [(r, .row e (.upd c i off a) true)] }
          | none => none
        | none => none
      else none
    | _ => none
  | _ => none

/-- a bound of a slice expression -/
def bound (S : SSt) (o : Option Operand) (d : X) : Option X :=
  match o with
  | none => some d
  | some o => opInt P S o
def xCmp (op : BinOp) (a b : X) : X := X.mkCmp op a b
def intArgs (S : SSt) (k : IntKind) : List Operand → List TypeId → Option (List X)
  | [], _ => some []
  | a :: as, ts => match opv P S a (ts.headD 0), intArgs S k as ts.tail with
    | .x b u, some l => if intKind P u == some k then some (b :: l) else none
    | _, _ => none

/-- bytes as a string -/
def symB2s (S : SSt) (src dst : TypeId) (v : SV) : Option Out :=
  match elemTy P src with
  | some e => if isStr P dst && intKind P e == some .u8 then match dataOf P S.heap v src with
    | some (d, _) => some { val := .x (.b2s d) dst }
    | none => none
    else none
  | none => none
/-- An operation, from a state; objects that it lays have the number n. -/
def symOp (S : SSt) (n : Nat) (o : Oper) : Option Out :=
  match o.op with
  | .move x | .assign x =>
    match opv P S x o.type with
    | .nils => match elemTy P o.type with
      | some e => some { val := .own n, sets := [(n, .row e (.lit .nil) true)] }
      | none => some { val := .nils }
    | v => some { val := v }
  | .pick c a b => match opv P S c P.rt.bool with
    | .x cx t => if !isBool P t then none else
      match cx with
      | .bool true => some { val := opv P S a o.type }
      | .bool false => some { val := opv P S b o.type }
      | cx => match opv P S a o.type, opv P S b o.type with
        | .x av t1, .x bv t2 => if t1 == t2 then some { val := .x (.ite cx av bv) t1 } else none
        | _, _ => none
    | _ => none
  | .alloc t => match zeroCells P t with
    | some cs => some { val := .ptr n 0, sets := [(n, .box (.ofL cs))] }
    | none => none
  | .box t x => match cellsOf P (opv P S x t) with
    | some cs => some { val := .ptr n 0, sets := [(n, .box (.ofL cs))] }
    | none => none
  | .build t parts => match zeroCells P t with
    | some z => match fillParts P S (partPlace P t) z parts.toList with
      | some cs => if placesOk P t then some { val := .agg (.ofL cs) } else none
      | none => none
    | none => none
  | .buildSlice t len parts => match elemTy P t with
    | some e =>
      let k := (cellTys P e).length
      if !sizeOk P e || decide (len * k > 1000000) || k == 0 || (len == 0 && !parts.isEmpty) || !zeroOk P e then none else
      match zeroCells P e with
      | some z => match fillParts P S (fun i => some (i * k, e)) ((List.replicate len z).flatten) parts.toList with
        | some cs => match dataRows P S.heap (cellTys P e) (group k len cs), bytesOf' P e with
          | some (a, fr), some by' => if len * by' ≤ 1000000000 then some { val := .own n, sets := frost S.heap fr ++ [(n, .row e (.lit a) true)] } else none
          | none, _ => if k == 1 && !isAg P e then some { val := .lits (.ofL cs) } else none
          | _, _ => none
        | none => none
      | none => none
    | none => none
  | .load t a => symLoad P S t (opv P S a t)
  | .store t a v => symStore P S t (opv P S a t) (opv P S v t)
  | .nilCheck x => match opv P S x o.type with
    | .ptr a b => some { val := .ptr a b }
    | _ => none
  | .binOp op xt x y yt => symBin P S op xt x y yt o.type
  | .unOp op xt x => match opv P S x xt with
    | .x a t => match op with
      | .not => if isBool P t && isBool P o.type then some { val := .x a.mkNot o.type } else none
      | .neg => match intKind P t with
        | some k => if intKind P o.type == some k then some { val := .x (X.mkBin .sub k (.int 0) a) o.type } else none
        | none => none
      | .xor => match intKind P t with
        | some k => if intKind P o.type == some k then some { val := .x (X.mkBin .xor k (.int (if k.signed then -1 else k.max)) a) o.type } else none
        | none => none
      | _ => none
    | _ => none
  | .convert src dst x => match opv P S x src with
    | .x a t =>
      match intKind P t, intKind P dst with
      | some _, some k => if (P.underlying src).isSome then some { val := .x (.wrap k a) dst } else none
      | _, _ =>
        if isStr P t && isStr P dst && (P.underlying src).isSome then some { val := .x a dst } else symB2s P S src dst (.x a t)
    | v => symB2s P S src dst v
  | .makeFunc (.func f) first caps => some { val := .clo f (.ofL (first.toList.map fun c => opv P S c 0)) (.ofL (caps.toList.map fun c => opv P S c 0)) }
  | .range t x => match opv P S x t with
    | .x a u => if isStr P u && isStr P t then some { val := .ptr n 0, sets := [(n, .siter a (.int 0))] } else none
    | _ => none
  | .makeMap t none => match P.underlying t with
    | some (.map k v) => some { val := .mp n, sets := [(n, .map k v (.lit .nil))] }
    | _ => none
  | .makeSlice t l c => match elemTy P t with
    | some e => match bytesOf' P e, opInt P S l, opInt P S c, zeroCells P e with
      | some b, some a, some ca, some z => match dataCells P [] z (cellTys P e) with
        | some (zx, _) => if sizeOk P e && b != 0 && (cellTys P e).length != 0 then
            some { chks := [xCmp .geq a (.int 0), xCmp .leq a ca, xCmp .leq ca (.int (140737488355328 / b))], val := .own n, sets := [(n, .row e (.rep a zx) true)] }
          else none
        | none => none
      | _, _, _, _ => none
    | none => none
  | .slice t x lo hi mx =>
    match opv P S x t with
    | .x a u =>
      if isStr P u && isStr P t then
        match bound P S lo (.int 0), bound P S hi (.slen a), mx with
        | some l, some h, none => some { chks := [xCmp .geq l (.int 0), xCmp .leq l h, xCmp .leq h (.slen a)], val := .x (.ssub a l h) u }
        | _, _, _ => none
      else match elemTy P u, elemTy P t with
        | some e, some e' => if e == e' && sizeOk P e then
            match bound P S lo (.int 0), bound P S hi (a.mkLen) with
            | some l, some h => match mx with
              | none => some { chks := [xCmp .geq l (.int 0), xCmp .leq l h, xCmp .leq h a.mkLen], val := .x (.tk a l h) u }
              | some m => if hi.isSome && opInt P S m == some h then some { chks := [xCmp .geq l (.int 0), xCmp .leq l h, xCmp .leq h a.mkLen], val := .full (.tk a l h) u } else none
            | _, _ => none
          else none
        | _, _ => none
    | .own r => match hget S.heap r with
      | .row e a _ =>
        if elemTy P t == some e && sizeOk P e then
          match bound P S lo (.int 0), bound P S hi (a.mkLen), mx with
          | some l, some h, none => some { chks := [xCmp .geq l (.int 0), xCmp .leq l h, xCmp .leq h a.mkLen], val := .x (.tk a l h) t, sets := [(r, .row e a false)] }
          | _, _, _ => none
        else none
      | _ => none
    | _ => none
  | .fieldAddr s x f => match fieldAt' P s f with
    | some (off, ft) => if sizeOf' P ft == some 0 || (sizeOf' P ft).isNone then none else match opv P S x s with
      | .ptr a b => some { val := .ptr a (b + off) }
      | .iptr e a b => some { val := .iptr e a (b + off) }
      | .rptr e r i b => some { val := .rptr e r i (b + off) }
      | _ => none
    | none => none
  | .field s x f => match fieldAt' P s f with
    | some (off, t) => if !sizeOk P t || !isAgSV P (opv P S x s) then none else match cellsOf P (opv P S x s) with
      | some cs => (partSV P cs off t).map fun v => { val := v }
      | none => none
    | none => none
  | .indexAddr t x i => match opInt P S i with
    | none => none
    | some ix => match opv P S x t with
      | .x a u | .full a u => match elemTy P u with
        | some e => if elemTy P t == some e && sizeOk P e then some { chks := [xCmp .geq ix (.int 0), xCmp .lss ix a.mkLen], val := .iptr e (.idx a ix) 0 } else none
        | none => none
      | .own r => match hget S.heap r with
        | .row e a _ => if elemTy P t == some e && sizeOk P e then some { chks := [xCmp .geq ix (.int 0), xCmp .lss ix a.mkLen], val := .rptr e r ix 0 } else none
        | _ => none
      | .lits es => match ix, elemTy P t with
        | .int k, some e => if decide (0 ≤ k) && sizeOk P e && (cellTys P e).length == 1 then (es.toL[k.toNat]?).map fun v => { val := .lptr v } else none
        | _, _ => none
      | _ => none
  | .index t x i => match opInt P S i, opv P S x t with
    | some ix, .x a u => if isStr P u && isStr P t && intKind P o.type == some .u8 then some { chks := [xCmp .geq ix (.int 0), xCmp .lss ix (.slen a)], val := .x (.sidx a ix) o.type } else none
    | _, _ => none
  | .extract x i => match opv P S x o.type with
    | .tup vs => (vs.toL[i]?).map fun v => { val := v }
    | _ => none
  | .call c => match c.callee with
    | .builtin b => match b, c.args.toList, c.argTypes.toList with
      | .len, [x], [t] => match opv P S x t with
        | .x a u | .full a u =>
          if isStr P u && isStr P t && intKind P o.type == some .i64 then some { val := .x (.slen a) o.type }
          else if (elemTy P u).isSome && (elemTy P t).isSome && intKind P o.type == some .i64 then some { val := .x a.mkLen o.type } else none
        | .own r => match hget S.heap r with
          | .row _ a _ => if (elemTy P t).isSome && intKind P o.type == some .i64 then some { val := .x a.mkLen o.type } else none
          | _ => none
        | .nils => if (elemTy P t).isSome && intKind P o.type == some .i64 then some { val := .x (.int 0) o.type } else none
        | .lits es => if (elemTy P t).isSome && intKind P o.type == some .i64 && decide (es.toL.length ≤ 1000000) then some { val := .x (.int es.toL.length) o.type } else none
        | _ => none
      | .max, a :: as, ts => match intKind P o.type with
        | some k => match intArgs P S k (a :: as) ts with
          | some (x :: xs) => some { val := .x (xs.foldl (fun a y => X.mkIte (xCmp .gtr y a) y a) x) o.type }
          | _ => none
        | none => none
      | .min, a :: as, ts => match intKind P o.type with
        | some k => match intArgs P S k (a :: as) ts with
          | some (x :: xs) => some { val := .x (xs.foldl (fun a y => X.mkIte (xCmp .lss y a) y a) x) o.type }
          | _ => none
        | none => none
      | .append, [x, y], [t, u] => match elemTy P t with
        | some e => match bytesOf' P e with
          | some by' => if by' == 0 || !sizeOk P e || (cellTys P e).length == 0 || !zeroOk P e then none else
            match (if isStr P u then (match opv P S y u with | .x a v => if isStr P v && intKind P e == some .u8 then some (X.s2b a, []) else none | _ => none)
                   else if elemTy P u == some e then dataOf P S.heap (opv P S y u) u else none) with
            | some (xs, fr) => match opv P S x t with
              | .own r => match hget S.heap r with
                | .row e' c wr => if e == e' && !fr.contains r then some { chks := [.fits c xs by'], val := .own n, sets := frost S.heap fr ++ [(r, .dead), (n, .row e (.app c xs) wr)] } else none
                | _ => none
              | .nils => some { chks := [.fits (.lit .nil) xs by'], val := .own n, sets := frost S.heap fr ++ [(n, .row e (.app (.lit .nil) xs) true)] }
              | .full a v => if elemTy P v == some e then
                  (match xs with
                   | .lit (.cons _ _) => some { chks := [.fits a xs by'], val := .own n, sets := frost S.heap fr ++ [(n, .row e (.app a xs) true)] }
                   | _ => some { chks := [.fits a xs by'], val := .x (.app a xs) t, sets := frost S.heap fr }) else none
              | _ => none
            | none => none
          | none => none
        | none => none
      | _, _, _ => none
    | _ => none
  | _ => none
end ops
end Go.RX
namespace Go.RX

/-- What a call leaves: new variables, its result, and the objects it was given, and new ones. -/
structure SOut where
  nv : Nat
  res : SV
  heap : List SObj
  /-- rows that were given and lie where they lay -/
  stay : List Nat := []
  deriving Inhabited
/-- A signature: what a function is given (variables from 0 on), and the ways it leaves. -/
structure Sig where
  nv : Nat
  params : List SV
  heap : List SObj
  outs : List SOut
  deriving Inhabited
structure Ctr where
  f : FuncId
  cid : Nat
  sg : Sig
  deriving Inhabited

inductive Ex where
  | normal | exit (n : Nat) | ret
  deriving DecidableEq, Inhabited

/-- all variables are below n -/
def SV.closed (n : Nat) : SV → Bool
  | .x a _ | .full a _ | .iptr _ a _ => a.closed n
  | .rptr _ _ i _ => i.closed n
  | .cons a b => a.closed n && b.closed n
  | .agg a | .tup a | .lits a | .lptr a => a.closed n
  | .clo _ a b => a.closed n && b.closed n
  | _ => true
def SObj.closed (n : Nat) : SObj → Bool
  | .box c | .rbox c => c.closed n
  | .row _ c _ | .map _ _ c => c.closed n
  | .siter a b => a.closed n && b.closed n
  | .dead => true
def SSt.closed (S : SSt) : Bool := S.env.all (SV.closed S.nv) && S.heap.all (SObj.closed S.nv) && S.facts.all fun q => q.1.closed S.nv

/-! Matching a pattern (variables from n0 on are to be found). -/
structure MSt where
  sub : List (Option X)
  ren : List (Nat × Nat)
  frz : List Nat
  news : Nat
  deriving Inhabited

section
variable (P : Program)

def matchX (n0 : Nat) (p a : X) (M : MSt) : Option MSt :=
  match p with
  | .var i =>
    if i < n0 then (if a == .var i then some M else none)
    else match M.sub.getD (i - n0) none with
      | none => if i - n0 < M.sub.length then some { M with sub := M.sub.set (i - n0) (some a) } else none
      | some _ => none
  | p => if p == a && p.closed n0 then some M else none

def addRen (M : MSt) (r s : Nat) : Option MSt :=
  match M.ren.find? (fun q => q.1 == r) with
  | some q => if q.2 == s then some M else none
  | none => if M.ren.any (fun q => q.2 == s) then none else some { M with ren := M.ren ++ [(r, s)] }

def matchData (H : List SObj) (n0 : Nat) (p : X) (t : TypeId) (a : SV) (M : MSt) : Option MSt :=
  match dataOf P H a t with
  | some (x, f) => matchX n0 p x { M with frz := M.frz ++ f }
  | none => none

/-- H: the objects that there are; n: what is laid anew has the numbers from n on -/
def matchSV (H : List SObj) (n0 n : Nat) : SV → SV → MSt → Option MSt
  | .any, .nil, _ => none
  | .any, .cons _ _, _ => none
  | .any, _, M => some M
  | .undef, .undef, M => some M
  | .x p t, a, M => matchData P H n0 p t a M
  | .nil, .nil, M => some M
  | .cons p q, .cons a b, M => match matchSV H n0 n p a M with
    | some M => matchSV H n0 n q b M
    | none => none
  | .agg ps, .agg cs, M => matchSV H n0 n ps cs M
  | .agg ps, .x a t, M => match cellsOf P (.x a t) with
    | some cs => if isAg P t then matchSV H n0 n ps (.ofL cs) M else none
    | none => none
  | .tup ps, .tup cs, M => matchSV H n0 n ps cs M
  | .own r, .own s, M => addRen M r s
  | .own r, .nils, M => (addRen M r (n + M.news)).map fun M => { M with news := M.news + 1 }
  | .ptr o off, .ptr o' off', M => if off == off' then addRen M o o' else none
  | .mp o, .mp o', M => addRen M o o'
  | .nilp, .nilp, M => some M
  | .nils, .nils, M => some M
  | .nilf, .nilf, M => some M
  | .nili, .nili, M => some M
  | .ifv, .ifv, M => some M
  | .full p t, .full a u, M => if sameTy P t u then matchX n0 p a M else none
  | .clo f ps qs, .clo g cs ds, M => if f == g then (match matchSV H n0 n ps cs M with
    | some M => matchSV H n0 n qs ds M
    | none => none) else none
  | .lits ps, .lits cs, M => matchSV H n0 n ps cs M
  | .iptr e p off, .iptr e' a off', M => if e == e' && off == off' then matchX n0 p a M else none
  | _, _, _ => none

def matchList (H : List SObj) (n0 n : Nat) : List SV → List SV → MSt → Option MSt
  | [], [], M => some M
  | p :: ps, a :: as, M => match matchSV P H n0 n p a M with
    | some M => matchList H n0 n ps as M
    | none => none
  | _, _, _ => none

def matchObj (H : List SObj) (n0 n : Nat) (p : SObj) (s : Nat) (M : MSt) : Option MSt :=
  if n ≤ s then
    match p with
    | .row _ c _ => matchX n0 c (.lit .nil) M
    | _ => none
  else match p, hget H s with
    | .box ps, .box cs | .rbox ps, .box cs | .rbox ps, .rbox cs => matchSV P H n0 n ps cs M
    | .siter p q, .siter a b => match matchX n0 p a M with
      | some M => matchX n0 q b M
      | none => none
    | .map kt vt p, .map kt' vt' c => if kt == kt' && vt == vt' then matchX n0 p c M else none
    | .row e p wr, .row e' c wr' => if e == e' && (wr' || !wr) then matchX n0 p c M else none
    | _, _ => none

/-- The objects that the pattern's values name, from the k-th on. -/
def matchObjs (H : List SObj) (n0 n : Nat) (pat : List SObj) : Nat → Nat → MSt → Option MSt
  | 0, _, _ => none
  | fuel + 1, k, M =>
    match M.ren[k]? with
    | none => some M
    | some (r, s) => match matchObj P H n0 n (hget pat r) s M with
      | some M => matchObjs H n0 n pat fuel (k + 1) M
      | none => none

def allSome : List (Option X) → Option (List X)
  | [] => some []
  | some a :: l => match allSome l with
    | some r => some (a :: r)
    | none => none
  | none :: _ => none

/-- the first k objects that stay where they are: each is itself -/
def keeper : SObj → Bool
  | .box _ | .rbox _ | .map _ _ _ | .siter _ _ => true
  | _ => false
def isLive : SObj → Bool | .dead => false | _ => true
def keepers (pat : List SObj) (kp : List Nat) : List (Nat × Nat) :=
  (kp.filter fun i => isLive (hget pat i)).map fun i => (i, i)
/-- every object of the pattern is found; what is to be written was not handed on as data -/
def matchedOk (pat : List SObj) (n : Nat) (M : MSt) : Bool :=
  M.ren.all (fun q => q.2 < n + M.news) &&
  (List.range pat.length).all (fun r => match hget pat r with
    | .dead => true
    | _ => M.ren.any (fun q => q.1 == r)) &&
  M.ren.all (fun q => match hget pat q.1 with
    | .row _ _ true => !M.frz.contains q.2
    | .dead => false
    | _ => true)
/-- Matching values and objects; the variables' expressions come out. -/
def matchAll (n0 nv : Nat) (ren : List (Nat × Nat)) (ps as : List SV) (pat H : List SObj) (n : Nat) : Option (List X × MSt) :=
  match matchList P H n0 n ps as { sub := List.replicate nv none, ren := ren, frz := [], news := 0 } with
  | none => none
  | some M => match matchObjs P H n0 n pat 400 0 M with
    | none => none
    | some M => match allSome M.sub with
      | none => none
      | some xs => if matchedOk pat n M then some (xs, M) else none

/-! Merging states (a guess that matching checks). -/
structure GSt where
  ren : List (Nat × Nat)
  deriving Inhabited

def dataTy (_H : List SObj) : SV → Option TypeId
  | .x _ t => some t
  | .full _ t => some t
  | _ => none
def dataLike : SV → Bool
  | .x _ _ | .full _ _ | .nils | .own _ => true
  | _ => false
def mergeSV (n0 hA : Nat) : SV → SV → List (Nat × Nat) → SV × List (Nat × Nat)
  | .any, _, R => (.any, R)
  | .undef, .undef, R => (.undef, R)
  | .mp o, .mp o', R => if o == o' then (.mp o, if R.any (·.1 == o) then R else R ++ [(o, o')]) else (.any, R)
  | .nil, .nil, R => (.nil, R)
  | .cons a b, .cons c d, R =>
    let (p, R) := mergeSV n0 hA a c R
    let (q, R) := mergeSV n0 hA b d R
    (.cons p q, R)
  | .agg a, .agg b, R => let (p, R) := mergeSV n0 hA a b R; (.agg p, R)
  | .tup a, .tup b, R => let (p, R) := mergeSV n0 hA a b R; (.tup p, R)
  | .own r, .own s, R => (.own r, if R.any (·.1 == r) then R else R ++ [(r, s)])
  | .own r, .nils, R => (.own r, if R.any (·.1 == r) then R else R ++ [(r, 1000000)])
  | .nils, .own s, R => let n := hA + (R.filter (fun q => q.1 ≥ hA)).length; (.own n, R ++ [(n, s)])
  | .ptr o off, .ptr o' off', R => if o == o' && off == off' then (.ptr o off, if R.any (·.1 == o) then R else R ++ [(o, o')]) else (.any, R)
  | .clo f a a', .clo g b b', R => if f == g then let (p, R) := mergeSV n0 hA a b R; let (q, R) := mergeSV n0 hA a' b' R; (.clo f p q, R) else (.any, R)
  | .nili, .nili, R => (.nili, R)
  | .ifv, .ifv, R => (.ifv, R)
  | .x a t, .x b u, R => if t == u then (if a == b && a.closed n0 then (.x a t, R) else (.x .hole t, R)) else if sameTy P t u then (.x .hole t, R) else (.any, R)
  | .full a t, .full b u, R => if t == u && a == b && a.closed n0 then (.full a t, R) else if t == u then (.full .hole t, R) else (.any, R)
  | .iptr e a off, .iptr e' b off', R => if e == e' && off == off' then (if a == b && a.closed n0 then (.iptr e a off, R) else (.iptr e .hole off, R)) else (.any, R)
  | .x _a t, b, R => if dataLike b then (.x .hole t, R) else match b with | .agg _ => (.x .hole t, R) | _ => (.any, R)
  | a, .x _b t, R => if dataLike a then (.x .hole t, R) else match a with | .agg _ => (.x .hole t, R) | _ => (.any, R)
  | .full _a t, b, R => if dataLike b then (.x .hole t, R) else (.any, R)
  | a, .full _b t, R => if dataLike a then (.x .hole t, R) else (.any, R)
  | .nils, .nils, R => (.nils, R)
  | .nilp, .nilp, R => (.nilp, R)
  | .nilf, .nilf, R => (.nilf, R)
  | .lits a, .lits b, R => let (p, R) := mergeSV n0 hA a b R; (.lits p, R)
  | _, _, R => (.any, R)
def mergeEnv (n0 hA : Nat) : List SV → List SV → List (Nat × Nat) → List SV × List (Nat × Nat)
  | a :: as, b :: bs, R =>
    let (p, R) := mergeSV P n0 hA a b R
    let (ps, R) := mergeEnv n0 hA as bs R
    (p :: ps, R)
  | _, _, R => ([], R)
/-- boxes that are reached, cell by cell; then rows -/
def mergeBoxes (n0 : Nat) (Ha Hb : List SObj) : Nat → Nat → List SObj → List (Nat × Nat) → List SObj
  | 0, _, acc, _ => acc
  | fuel + 1, k, acc, R =>
    match R[k]? with
    | none => acc
    | some (r, s) =>
      match Ha.getD r .dead, Hb.getD s .dead with
      | .box a, .box b =>
        let (p, R) := mergeSV P n0 Ha.length a b R
        mergeBoxes n0 Ha Hb fuel (k + 1) (acc.set r (.box p)) R
      | .rbox a, .rbox b =>
        let (p, R) := mergeSV P n0 Ha.length a b R
        mergeBoxes n0 Ha Hb fuel (k + 1) (acc.set r (.rbox p)) R
      | .siter a p, .siter b q => mergeBoxes n0 Ha Hb fuel (k + 1) (acc.set r (.siter (if a == b && a.closed n0 then a else .hole) (if p == q && p.closed n0 then p else .hole))) R
      | .map kt vt a, .map _ _ b => mergeBoxes n0 Ha Hb fuel (k + 1) (acc.set r (.map kt vt (if a == b && a.closed n0 then a else .hole))) R
      | .row e a w, .row e' b w' =>
        if e == e' || e' == 0 then mergeBoxes n0 Ha Hb fuel (k + 1) (acc.set r (.row e (if a == b && a.closed n0 then a else .hole) (w && w'))) R
        else if e == 0 then mergeBoxes n0 Ha Hb fuel (k + 1) (acc.set r (.row e' (if a == b && a.closed n0 then a else .hole) (w && w'))) R
        else mergeBoxes n0 Ha Hb fuel (k + 1) acc R
      | .row e _ w, .dead => mergeBoxes n0 Ha Hb fuel (k + 1) (acc.set r (.row e .hole w)) R
      | .dead, .row e _ w => mergeBoxes n0 Ha Hb fuel (k + 1) ((acc ++ List.replicate (r + 1 - acc.length) SObj.dead).set r (.row e .hole w)) R
      | _, _ => mergeBoxes n0 Ha Hb fuel (k + 1) acc R
def merge2 (n0 : Nat) (kp : List Nat) (A B : SSt) : SSt :=
  let (env, R) := mergeEnv P n0 A.heap.length A.env B.env (keepers A.heap kp)
  { env := env, heap := mergeBoxes P n0 A.heap B.heap 300 0 (A.heap.map fun _ => .dead) R, nv := n0 }
/-- the variables from n0 on become holes -/
def holes (n0 : Nat) (S : SSt) : SSt :=
  let f (a : X) : X := if a.closed n0 then a else .hole
  let rec g : SV → SV
    | .x a t => .x (f a) t
    | .cons a b => .cons (g a) (g b)
    | .agg a => .agg (g a)
    | .tup a => .tup (g a)
    | .full a t => .full (f a) t
    | .iptr e a off => .iptr e (f a) off
    | .rptr _ _ _ _ => .any
    | .clo h b c => .clo h (g b) (g c)
    | .lits c => .lits (g c)
    | a => a
  { S with env := S.env.map g, heap := S.heap.map fun o => match o with | .box c => .box (g c) | .rbox c => .rbox (g c) | .row e c w => .row e (f c) w | .siter a b => .siter (f a) (f b) | .map k v c => .map k v (f c) | .dead => .dead }
/-- holes become variables -/
def numSV : SV → Nat → SV × Nat
  | .x .hole t, n => (.x (.var n) t, n + 1)
  | .full .hole t, n => (.full (.var n) t, n + 1)
  | .iptr e .hole off, n => (.iptr e (.var n) off, n + 1)
  | .cons a b, n => let (a, n) := numSV a n; let (b, n) := numSV b n; (.cons a b, n)
  | .agg a, n => let (a, n) := numSV a n; (.agg a, n)
  | .tup a, n => let (a, n) := numSV a n; (.tup a, n)
  | .clo f a b, n => let (a, n) := numSV a n; let (b, n) := numSV b n; (.clo f a b, n)
  | .lits a, n => let (a, n) := numSV a n; (.lits a, n)
  | a, n => (a, n)
def numEnv : List SV → Nat → List SV × Nat
  | [], n => ([], n)
  | a :: l, n => let (a, n) := numSV a n; let (l, n) := numEnv l n; (a :: l, n)
def numHeap : List SObj → Nat → List SObj × Nat
  | [], n => ([], n)
  | .box c :: l, n => let (c, n) := numSV c n; let (l, n) := numHeap l n; (.box c :: l, n)
  | .rbox c :: l, n => let (c, n) := numSV c n; let (l, n) := numHeap l n; (.rbox c :: l, n)
  | .siter a b :: l, n =>
    let (a, n) := match a with | .hole => (X.var n, n + 1) | a => (a, n)
    let (b, n) := match b with | .hole => (X.var n, n + 1) | b => (b, n)
    let (l, n) := numHeap l n; (.siter a b :: l, n)
  | .map k v .hole :: l, n => let (l, n') := numHeap l (n + 1); (.map k v (.var n) :: l, n')
  | .row e .hole w :: l, n => let (l, n') := numHeap l (n + 1); (.row e (.var n) w :: l, n')
  | o :: l, n => let (l, n) := numHeap l n; (o :: l, n)
def canon (S : SSt) (n0 : Nat) : SSt :=
  let (env, n) := numEnv S.env n0
  let (heap, n) := numHeap S.heap n
  { env := env, heap := heap, nv := n, facts := [] }
/-- slots that are not live are forgotten; so are objects that nothing names -/
def forget (L : Nat) (S : SSt) : SSt :=
  { S with env := S.env.mapIdx fun i v => if L.testBit i then v else .any }
def namesSV : SV → List Nat
  | .cons a b => namesSV a ++ namesSV b
  | .agg a | .tup a | .lits a => namesSV a
  | .clo _ a b => namesSV a ++ namesSV b
  | .own r | .ptr r _ | .rptr _ r _ _ | .mp r => [r]
  | .lptr a => namesSV a
  | _ => []
def reach (H : List SObj) : Nat → List Nat → List Nat → List Nat
  | 0, _, seen => seen
  | _ + 1, [], seen => seen
  | n + 1, o :: todo, seen =>
    if seen.contains o then reach H n todo seen else
    match H.getD o .dead with
    | .box c | .rbox c => reach H n (namesSV c ++ todo) (o :: seen)
    | _ => reach H n todo (o :: seen)
def prune (k : Nat) (S : SSt) : SSt :=
  let seen := reach S.heap 2000 (List.range k ++ S.env.flatMap namesSV) []
  { S with heap := S.heap.mapIdx fun i o => if seen.contains i then o else .dead }

/-! Liveness (a guess, too). -/
structure Live where
  norm : Nat
  exits : List (Nat × Nat)
  ret : Nat
  deriving Inhabited
def bits (l : List Nat) : Nat := l.foldl (fun a i => a ||| (1 <<< i)) 0
def operBits (o : Oper) : Nat := bits (o.op.operands.toList.filterMap fun | .tmp t => some t | _ => none)
def clearBit (a i : Nat) : Nat := if a.testBit i then a ^^^ (1 <<< i) else a
def liveOps (ops : Array Oper) : List Oper → Nat → Nat
  | [], L => L
  | o :: r, L =>
    let L := liveOps ops r L
    let L := match o.dst, o.guard with | some d, none => clearBit L d | _, _ => L
    L ||| operBits o ||| (match o.guard with | some (j, _) => (match (ops[j]?).bind (·.dst) with | some d => 1 <<< d | none => 0) | none => 0)
def live : Code → Live → Nat
  | .region _ ops _, A => liveOps ops ops.toList A.norm
  | .seq a b, A => live a { A with norm := live b A }
  | .cond c a b, A => live a A ||| live b A ||| (match c with | .tmp t => 1 <<< t | _ => 0)
  | .block id b, A => live b { A with exits := (id, A.norm) :: A.exits }
  | .loop b, A => live b { A with norm := live b { A with norm := 0 } }
  | .exit id, A => match A.exits.find? (·.1 == id) with | some q => q.2 | none => 0
  | .ret, A => A.ret
  | .scope b, A => live b A
  | _, A => A.norm

/-! Trees. -/
def T.shift (n : Nat) : T → T
  | .lf i => .lf (i + n)
  | .y j xs => .y j xs
  | .ite c a b => .ite c (a.shift n) (b.shift n)
  | .chk c k => .chk c (k.shift n)
  | .call c xs ks => .call c xs (ks.shift n)
  | .bind s ks => .bind s (ks.shift n)
  | .loop i b ks => .loop i b (ks.shift n)
  | .alt k r => .alt (k.shift n) (r.shift n)
  | .nil => .nil
/-- each leaf is replaced by a tree -/
def T.graft (f : Nat → T) : T → T
  | .lf i => f i
  | .y j xs => .y j xs
  | .ite c a b => .ite c (a.graft f) (b.graft f)
  | .chk c k => .chk c (k.graft f)
  | .call c xs ks => .call c xs (ks.graft f)
  | .bind s ks => .bind s (ks.graft f)
  | .loop i b ks => .loop i b (ks.graft f)
  | .alt k r => .alt (k.graft f) (r.graft f)
  | .nil => .nil
def T.ofAlts : List T → T | [] => .nil | t :: l => .alt t (T.ofAlts l)
def T.mkChk (c : X) (k : T) : T := match c with | .bool true => k | c => .chk c k
def T.chks : List X → T → T | [], k => k | c :: l, k => T.mkChk c (T.chks l k)

/-- all that a step's tree asks -/
def T.closed (n : Nat) : T → Bool
  | .lf _ | .nil => true
  | .ite c a b => c.closed n && a.closed n && b.closed n
  | .chk c k => c.closed n && k.closed n
  | .call _ xs ks => xs.closed n && ks.closed n
  | .alt a b => a.closed n && b.closed n
  | _ => false

abbrev Leaf := Ex × SSt

/-- Trees with their leaves put behind one another. -/
def combine {α : Type} : List (T × List α) → Nat → List T × List α
  | [], _ => ([], [])
  | (t, l) :: r, n => let (ts, ls) := combine r (n + l.length); (t.shift n :: ts, l ++ ls)
/-- each leaf goes on by what f makes of it -/
def mapLeaves {α β : Type} (f : α → Option (T × List β)) : List α → Option (List (T × List β))
  | [] => some []
  | a :: l => match f a, mapLeaves f l with
    | some x, some r => some (x :: r)
    | _, _ => none
def onLeaves {α β : Type} (t : T) (l : List α) (f : α → Option (T × List β)) : Option (T × List β) :=
  match mapLeaves f l with
  | some subs => let c := combine subs 0; some (t.graft (fun i => c.1.getD i .nil), c.2)
  | none => none

structure Ctx where
  P : Program
  cs : List Ctr
  /-- so many objects are the caller's -/
  k : Nat := 0
  /-- which of them stay where they are -/
  kp : List Nat := []

/-- What an operation turns. -/
structure Diff where
  val : SV
  sets : List (Nat × SObj) := []
  nv : Nat
  deriving DecidableEq, Inhabited

def putEnv (env : List SV) (d : Option Nat) (v : SV) : List SV := match d with | some d => env.set d v | none => env
def SSt.apply (S : SSt) (dst : Option Nat) (d : Diff) : SSt :=
  { env := putEnv S.env dst d.val, heap := hsets S.heap d.sets, nv := d.nv, facts := S.facts }

variable (C : Ctx)

/-- a type of values that hold no memory -/
def flatTy (t : TypeId) : Bool := (cellTys C.P t).all fun u => (intKind C.P u).isSome || isBool C.P u || isStr C.P u
/-- results that hold no memory -/
def flatSV : SV → Bool
  | .x _ t => flatTy C t
  | .nil | .nilp | .nili | .ifv => true
  | .cons a b => flatSV a && flatSV b
  | .agg a | .tup a => flatSV a
  | _ => false
/-- nothing that the contract is given is written, and nothing is made -/
def stillSig (sg : Sig) : Bool :=
  sg.heap.all (fun o => match o with | .rbox _ | .dead => true | _ => false) && sg.outs.all (fun o => flatSV C o.res && (o.heap.drop sg.heap.length).isEmpty)
def renOf (ren : List (Nat × Nat)) (i : Nat) : Nat := match ren.find? (fun q => q.1 == i) with | some q => q.2 | none => 0
/-- where an object of a contract's end lies at the caller -/
def outId (sg : Sig) (stay : List Nat) (ren : List (Nat × Nat)) (n i : Nat) : Nat :=
  if i < sg.heap.length && (keeper (hget sg.heap i) || stay.contains i) then renOf ren i else n + i
/-- a name for the i-th value that comes out -/
def outVar (nv onv i : Nat) : X := if i < onv then .var (nv + i) else .hole
def isWr : SObj → Bool
  | .box _ | .row _ _ _ | .siter _ _ | .map _ _ _ => true
  | _ => false
def outSets (sg : Sig) (stay : List Nat) (ren : List (Nat × Nat)) (n nv onv : Nat) : Nat → List SObj → List (Nat × SObj)
  | _, [] => []
  | i, ob :: l =>
    let r := outSets sg stay ren n nv onv (i + 1) l
    if isWr ob then (outId sg stay ren n i, ob.mapv (outVar nv onv) (outId sg stay ren n)) :: r else r
/-- what was given to be written is not known until it comes out -/
def deadGiven (sg : Sig) : List (Nat × Nat) → List (Nat × SObj)
  | [] => []
  | (i, s) :: l => if isWr (hget sg.heap i) then (s, .dead) :: deadGiven sg l else deadGiven sg l
def outDiff (S : SSt) (sg : Sig) (M : MSt) (n : Nat) (o : SOut) : Diff :=
  { val := o.res.map (outVar S.nv o.nv) (outId sg o.stay M.ren (n + M.news)), nv := S.nv + o.nv,
    sets := if stillSig C sg then [] else frost S.heap M.frz ++ deadGiven sg M.ren ++ outSets sg o.stay M.ren (n + M.news) S.nv o.nv 0 o.heap ++ [(n + M.news + o.heap.length, .dead)] }
/-- what lies where it lay is written only where it was given to be written -/
def sgOk (sg : Sig) : Bool :=
  sg.outs.all fun o => o.stay.all (fun i => isWr (hget sg.heap i) && i < sg.heap.length) &&
    (List.range sg.heap.length).all fun i => !(keeper (hget sg.heap i) && isWr (hget o.heap i)) || isWr (hget sg.heap i)
/-- a call: which contract fits -/
def trySig (S : SSt) (n : Nat) (args : List SV) (c : Ctr) : Option (T × List Diff) :=
  match matchAll C.P 0 c.sg.nv [] c.sg.params args c.sg.heap S.heap n with
  | some (xs, M) => if sgOk c.sg && (!stillSig C c.sg || M.news == 0) then some (.call c.cid (.ofL xs) (T.ofAlts ((List.range c.sg.outs.length).map .lf)), c.sg.outs.map (outDiff C S c.sg M n)) else none
  | none => none
def firstSig (S : SSt) (n : Nat) (f : FuncId) (args : List SV) : List Ctr → Option (T × List Diff)
  | [] => none
  | c :: cs => if c.f == f then (match trySig C S n args c with
    | some r => some r
    | none => firstSig S n f args cs) else firstSig S n f args cs

def argVals (S : SSt) : List Operand → List TypeId → List SV
  | [], _ => []
  | a :: as, ts => opv C.P S a (ts.headD 0) :: argVals S as ts.tail

/-- one operation -/
def symStep (S : SSt) (n : Nat) (o : Oper) : Option (T × List Diff) :=
  match o.op with
  | .call { callee := .value g, args, argTypes } =>
    match opv C.P S g 0 with
    | .clo f first caps => firstSig C S n f (first.toL ++ argVals C S args.toList argTypes.toList ++ caps.toL) C.cs
    | _ => none
  | .next it true =>
    match opv C.P S it 0 with
    | .ptr r 0 => match hget S.heap r with
      | .siter a p =>
        let tb := C.P.rt.bool
        if isBool C.P tb && (intKind C.P C.P.rt.int == some .i64) && (intKind C.P C.P.rt.rune == some .i32) then
          some (.ite (.cmp .lss p (.slen a)) (.lf 0) (.lf 1),
            [{ val := .tup (.ofL [.x (.bool true) tb, .x p C.P.rt.int, .x (.ruc a p) C.P.rt.rune]), sets := [(r, .siter a (.bin .add .i64 p (.ruw a p)))], nv := S.nv },
             { val := .tup (.ofL [.x (.bool false) tb]), nv := S.nv }])
        else none
      | _ => none
    | _ => none
  | _ => match symOp C.P S n o with
    | some r => some (T.chks r.chks (.lf 0), [{ val := r.val, sets := r.sets, nv := S.nv }])
    | none => none

/-- how a guard stands -/
inductive Gd where
  | run | skip | ask (c : X) (want : Bool) | lost
def guardOf (ops : Array Oper) (o : Oper) (S : SSt) : Gd :=
  match o.guard with
  | none => .run
  | some (j, want) =>
    match (ops[j]?).bind (·.dst) with
    | some d => match known C.P S.facts (S.env.getD d .any) with
      | .x c t => if isBool C.P t then (match c with
        | .bool b => if b == want then .run else .skip
        | c => .ask c want) else .lost
      | .undef => .skip
      | _ => .lost
    | none => .lost

/-! A region whose order is open: each operation is reckoned from what it looks at alone, and what two of them touch that have no order is apart. -/
structure Ent where
  i : Nat
  rd : List Nat
  wr : List Nat
  vr : Bool
def looks (ops : Array Oper) (o : Oper) : List Nat :=
  (o.op.operands.toList.filterMap fun | .tmp t => some t | _ => none) ++
  (match o.guard with
   | some (g, _) => ((ops[g]?).bind (·.dst)).toList
   | none => [])
def keepSlots (l : List Nat) : Nat → List SV → List SV
  | _, [] => []
  | i, v :: vs => (if l.contains i then v else .any) :: keepSlots l (i + 1) vs
def keepObjs (l : List Nat) : Nat → List SObj → List SObj
  | _, [] => []
  | i, v :: vs => (if l.contains i then v else .dead) :: keepObjs l (i + 1) vs
/-- operations that look at objects -/
def needsHeap : Op → Bool
  | .move _ | .assign _ | .pick _ _ _ | .alloc _ | .box _ _ | .build _ _ | .nilCheck _ | .binOp .. | .unOp .. | .convert .. | .makeFunc .. | .fieldAddr .. | .field .. | .index .. | .extract .. => false
  | _ => true
def mini (ops : Array Oper) (o : Oper) (S : SSt) : List Nat × SSt :=
  let env := keepSlots (looks ops o) 0 S.env
  let ids := if needsHeap o.op then reach S.heap 2000 (env.flatMap namesSV) [] else []
  (ids, { S with env := env, heap := keepObjs ids 0 S.heap })
/-- what must stand before each operation, whatever the order: bits -/
def alwaysBinds (e : Edge) : Bool := match e.ground with | .textOnly _ | .gcOnly _ => false | _ => true
def predTable : List Oper → Array Nat → Array Nat
  | [], acc => acc
  | o :: r, acc => predTable r (acc.push (o.after.foldl (fun s e => if alwaysBinds e then s ||| 2 ^ e.on ||| acc.getD e.on 0 else s) 0))
def disj (a b : List Nat) : Bool := a.all fun i => !b.contains i
def apartOps (ops : Array Oper) (x y : Oper) : Bool :=
  (match x.dst with
   | some d => !(looks ops y).contains d && y.dst != some d
   | none => true) &&
  (match y.dst with
   | some d => !(looks ops x).contains d
   | none => true)
def pairOk (ops : Array Oper) (tb : Array Nat) (a b : Ent) : Bool :=
  (tb.getD b.i 0).testBit a.i || (apartOps ops (ops.getD a.i default) (ops.getD b.i default) && !(a.vr && b.vr) && disj a.wr b.rd && disj a.wr b.wr && disj b.wr a.rd)
def traceOk (ops : Array Oper) (tb : Array Nat) : List Ent → Bool
  | [] => true
  | b :: l => l.all (fun a => pairOk ops tb a b) && traceOk ops tb l

def miniOf (draw : Bool) (ops : Array Oper) (o : Oper) (S : SSt) : List Nat × SSt := if draw then mini ops o S else ([], S)
/-- only what is looked at to be written, and new objects, are turned -/
def setsOk (H : List SObj) (n : Nat) (l : List (Nat × SObj)) : Bool := l.all fun q => (n ≤ q.1 || isWr (hget H q.1)) && (isWr q.2 || !isLive q.2)
/-- the operations of a region, in the order of the text; the trace is kept backwards -/
def symOps (ops : Array Oper) (draw : Bool) : List Oper → Nat → SSt → List Ent → Option (T × List (SSt × List Ent))
  | [], _, S, tr => some (.lf 0, [(S, tr)])
  | o :: r, i, S, tr =>
    let run (S : SSt) : Option (T × List (SSt × List Ent)) :=
      let m := miniOf draw ops o S
      match symStep C m.2 S.heap.length o with
      | some (t, ds) => if !t.closed S.nv || !ds.all (fun d => setsOk m.2.heap S.heap.length d.sets) then none else onLeaves t ds fun d => symOps ops draw r (i + 1) (S.apply o.dst d) ({ i := i, rd := m.1, wr := d.sets.map (·.1), vr := d.nv != S.nv } :: tr)
      | none => none
    let pass (S : SSt) := symOps ops draw r (i + 1) (S.apply o.dst { val := .undef, nv := S.nv }) ({ i := i, rd := [], wr := [], vr := false } :: tr)
    match guardOf C ops o S with
    | .run => run S
    | .skip => pass S
    | .lost => none
    | .ask c want => if !c.closed S.nv then none else
      match run { S with facts := (c, want) :: S.facts }, pass { S with facts := (c, !want) :: S.facts } with
      | some (a, la), some (b, lb) => if want then some (.ite c a (b.shift la.length), la ++ lb) else some (.ite c (b.shift la.length) a, la ++ lb)
      | _, _ => none
/-- what binds stands ahead -/
def edgesOk : List Oper → Nat → Bool
  | [], _ => true
  | o :: r, i => o.after.all (fun e => !alwaysBinds e || e.on < i) && edgesOk r (i + 1)
def symRegion (ops : Array Oper) (draw : Bool) (S : SSt) : Option (T × List Leaf) :=
  match symOps C ops draw ops.toList 0 S [] with
  | some (t, l) =>
    if !(l.all (fun q => q.1.nv == S.nv) || S.closed) then none else
    if !draw || (edgesOk ops.toList 0 && l.all fun q => traceOk ops (predTable ops.toList #[]) q.2) then some (t, l.map fun q => (.normal, q.1)) else none
  | none => none

/-- leaves of a piece of code that has several ends: the normal ones are joined, the others are carried out -/
def matchLeaf (n0 : Nat) (Q S : SSt) : Option (List X) :=
  match matchAll C.P n0 (Q.nv - n0) (keepers Q.heap C.kp) Q.env S.env Q.heap S.heap S.heap.length with
  | some r => some r.1
  | none => none
def exportOf (n0 : Nat) (L : Nat) (S : SSt) : SSt := canon (prune C.k (forget L (holes n0 S))) n0
def liveOf (A : Live) : Ex → Nat
  | .normal => A.norm
  | .ret => A.ret
  | .exit id => match A.exits.find? (·.1 == id) with | some q => q.2 | none => 0
def mergeAll (n0 : Nat) (L : Nat) : List SSt → SSt
  | [] => default
  | S :: l => canon (prune C.k (l.foldl (fun Q B => merge2 C.P n0 C.kp Q (forget L B)) (prune C.k (forget L (holes n0 S))))) n0

def isNormal : Leaf → Bool | (.normal, _) => true | _ => false

/-- a pattern that a leaf may be -/
def leafOk (n0 : Nat) (Q : SSt) : Bool := Q.facts.isEmpty && n0 ≤ Q.nv && C.k ≤ Q.heap.length
/-- how each leaf goes on: the normal ones with label 0 and the pattern Q, each other one with a label of its own -/
def labels (n0 : Nat) (A : Live) (Q : SSt) : List Leaf → Nat → Option (List T × List Leaf)
  | [], _ => some ([], [])
  | (.normal, S) :: l, k => match matchLeaf C n0 Q S, labels n0 A Q l k with
    | some xs, some (ts, ls) => some (.y 0 (.ofL xs) :: ts, ls)
    | _, _ => none
  | (e, S) :: l, k =>
    let R := exportOf C n0 (liveOf A e) S
    match matchLeaf C n0 R S, labels n0 A Q l (k + 1) with
    | some xs, some (ts, ls) => some (.y (k + 1) (.ofL xs) :: ts, (e, R) :: ls)
    | _, _ => none

def joinLeaves (n0 : Nat) (A : Live) (t : T) (la : List Leaf) : Option (T × List Leaf) :=
  let Q := mergeAll C n0 A.norm ((la.filter isNormal).map (·.2))
  match labels C n0 A Q la 0 with
  | some (ys, outs) => if leafOk C n0 Q && outs.all (fun l => leafOk C n0 l.2) then
      some (.bind (t.graft fun i => ys.getD i .nil) (T.ofAlts ((List.range (outs.length + 1)).map .lf)), (.normal, Q) :: outs) else none
  | none => none

def loopFix (run : SSt → Option (T × List Leaf)) (n0 L : Nat) : Nat → SSt → Option (SSt × T × List Leaf)
  | 0, _ => none
  | fuel + 1, Q => match run Q with
    | none => none
    | some (t, la) =>
      let norms := (la.filter isNormal).map (·.2)
      if norms.all fun S => (matchLeaf C n0 Q S).isSome then some (Q, t, la)
      else loopFix run n0 L fuel (canon (prune C.k (norms.foldl (fun Q B => merge2 C.P n0 C.kp Q (forget L B)) (holes n0 Q))) n0)

def unroll (run : SSt → Option (T × List Leaf)) : Nat → SSt → Option (T × List Leaf)
  | 0, _ => none
  | fuel + 1, S => match run S with
    | some (t, l) => onLeaves t l fun (e, s) => match e with
      | .normal => unroll run fuel s
      | e => some (.lf 0, [(e, s)])
    | none => none

/-- ends of a region that are told apart by what stands behind it -/
def splits : Code → Bool
  | .region _ ops _ => ops.any fun o => match o.op with
    | .next _ _ => true
    | .call { callee := .value (.func f), .. } => C.cs.any fun c => c.f == f && c.sg.outs.length > 1
    | _ => false
  | _ => false
def isLits : SV → Bool | .lits _ => true | _ => false

def symLoop (run : Live → SSt → Option (T × List Leaf)) (A : Live) (L : Nat) (S : SSt) : Option (T × List Leaf) :=
  let A' := { A with norm := L }
  if (forget L S).env.any isLits then unroll (run A') 9 S else
  let n0 := S.nv
  match loopFix C (run A') n0 L 8 (canon (prune C.k (forget L S)) n0) with
  | none => none
  | some (Q, t, la) => match matchLeaf C n0 Q S, labels C n0 A' Q la 0 with
    | some init, some (ys, outs) => if leafOk C n0 Q && outs.all (fun l => leafOk C n0 l.2) then
        some (.loop (.ofL init) (t.graft fun i => ys.getD i .nil) (T.ofAlts ((List.range outs.length).map .lf)), outs) else none
    | _, _ => none

def sym : Code → Live → SSt → Option (T × List Leaf)
  | .skip, _, S => some (.lf 0, [(.normal, S)])
  | .ret, _, S => some (.lf 0, [(.ret, S)])
  | .exit id, _, S => some (.lf 0, [(.exit id, S)])
  | .region _ ops d, _, S => symRegion C ops d S
  | .cond c a b, A, S =>
    match opv C.P S c C.P.rt.bool with
    | .x cx t => if !isBool C.P t then none else
      match cx with
      | .bool true => sym a A S
      | .bool false => sym b A S
      | cx => match sym a A { S with facts := (cx, true) :: S.facts }, sym b A { S with facts := (cx, false) :: S.facts } with
        | some (ta, la), some (tb, lb) => some (.ite cx ta (tb.shift la.length), la ++ lb)
        | _, _ => none
    | _ => none
  | .block id b, A, S => match sym b { A with exits := (id, A.norm) :: A.exits } S with
    | some (t, l) => some (t, l.map fun q => (if q.1 == .exit id then .normal else q.1, q.2))
    | none => none
  | .seq a b, A, S =>
    let A' := { A with norm := live b A }
    match sym a A' S with
    | none => none
    | some (t, l) =>
      match (if (l.filter isNormal).length ≤ 1 || splits C a then some (t, l) else joinLeaves C S.nv A' t l) with
      | none => none
      | some (t, l) => onLeaves t l fun (e, s) => match e with
        | .normal => sym b A s
        | e => some (.lf 0, [(e, s)])
  | .loop b, A, S => symLoop C (fun A S => sym b A S) A (live (.loop b) A) S
  | _, _, _ => none

/-- the results of a function as values -/
def resVals (S : SSt) : List ResultVar → Option (List SV)
  | [] => some []
  | .tmp t :: l => match resVals S l with
    | some r => some (S.env.getD t .any :: r)
    | none => none
  | .cell a t :: l => match symLoad C.P S t (S.env.getD a .any), resVals S l with
    | some o, some r => some (o.val :: r)
    | _, _ => none
def resultOf (fn : Func) (S : SSt) : Option SV :=
  match resVals C S fn.results.toList with
  | some [v] => some v
  | some l => some (.tup (.ofL l))
  | none => none

/-- how a leaf fits one of the ways out -/
def kpOut (sg : Sig) (o : SOut) : List Nat := (List.range sg.heap.length).filter fun i => keeper (hget sg.heap i) || o.stay.contains i
def kpAll (sg : Sig) : List Nat := (List.range sg.heap.length).filter fun i => keeper (hget sg.heap i) || sg.outs.any fun o => o.stay.contains i
def fitOut (sg : Sig) (S : SSt) (v : SV) : List SOut → Nat → Option T
  | [], _ => none
  | o :: os, j =>
    match matchAll C.P 0 o.nv (keepers o.heap (kpOut sg o)) [o.res] [v] o.heap S.heap S.heap.length with
    | some (xs, _) => some (.y j (.ofL xs))
    | none => fitOut sg S v os (j + 1)
def fitLeaf (fn : Func) (sg : Sig) (l : Leaf) : Option (T × List Unit) :=
  match l.1 with
  | .exit _ => none
  | _ => match resultOf C fn l.2 with
    | some v => match fitOut C sg l.2 v sg.outs 0 with
      | some t => some (t, [])
      | none => none
    | none => none
def retBits (fn : Func) : Nat := bits (fn.results.toList.map fun (r : ResultVar) => match r with | .tmp t => t | .cell a _ => a)
def startOf (fn : Func) (sg : Sig) : SSt := { env := sg.params ++ List.replicate (fn.ntmps - sg.params.length) .undef, heap := sg.heap, nv := sg.nv }
end
def compile (C0 : Ctx) (fn : Func) (sg : Sig) : Option T :=
  let C := { C0 with k := sg.heap.length, kp := kpAll sg }
  match fn.body with
  | none => none
  | some c => match sym C c { norm := retBits fn, exits := [], ret := retBits fn } (startOf fn sg) with
    | none => none
    | some (t, l) => match mapLeaves (fitLeaf C fn sg) l with
      | some ys => some (t.graft fun i => (ys.map (·.1)).getD i .nil)
      | none => none
end Go.RX
namespace Go.RX

/-- Which cells may still change: by block and place. -/
abbrev Av := Nat → Nat → Prop

/-- A slice's data is of a size that memory bears. -/
def SlOk (P : Program) (e : TypeId) (es : List (List D)) : Prop :=
  (es.length : Int) ≤ 9223372036854775807 ∧ ∀ b, bytesOf' P e = some b → es.length * b ≤ 140737488355328

mutual
/-- A value reads as data of a type, in memory that nobody changes. -/
inductive Rep (P : Program) (w : World) (av : Av) : TypeId → Value → D → Prop
  | bool {t : TypeId} {b : Bool} : P.underlying t = some .bool → Rep P w av t (.bool b) (.bool b)
  | int {t : TypeId} {k : IntKind} {n : Int} : P.underlying t = some (.int k) → k.min ≤ n → n ≤ k.max → Rep P w av t (.int k n) (.int n)
  | str {t : TypeId} {s : List UInt8} : P.underlying t = some .string → (s.length : Int) ≤ 9223372036854775807 → Rep P w av t (.string ⟨s.toArray⟩) (.str s)
  | agg {t : TypeId} {vs : List Value} {cs : List D} : isAg P t = true → RepL P w av (cellTys P t) vs cs → Rep P w av t (.agg vs.toArray) (.agg cs)
  | nil {t e : TypeId} {a : Option Addr} {cap : Nat} : P.underlying t = some (.slice e) → Rep P w av t (.slice a 0 cap) (.sl [])
  | sl {t e : TypeId} {b off cap : Nat} {es : List (List D)} : P.underlying t = some (.slice e) → SlOk P e es → es.length ≤ cap → RepE P w av e b off es →
      Rep P w av t (.slice (some ⟨b, off, none⟩) es.length cap) (.sl es)
/-- Values, one by one. -/
inductive RepL (P : Program) (w : World) (av : Av) : List TypeId → List Value → List D → Prop
  | nil : RepL P w av [] [] []
  | cons {t : TypeId} {ts : List TypeId} {v : Value} {vs : List Value} {d : D} {ds : List D} : Rep P w av t v d → RepL P w av ts vs ds → RepL P w av (t :: ts) (v :: vs) (d :: ds)
/-- Cells, one behind the other. -/
inductive RepM (P : Program) (w : World) (av : Av) : List TypeId → Nat → Nat → List D → Prop
  | nil {b off : Nat} : RepM P w av [] b off []
  | cons {t : TypeId} {ts : List TypeId} {b off : Nat} {v : Value} {d : D} {ds : List D} : w.cell? ⟨b, off, none⟩ = some v → ¬ av b off → Rep P w av t v d → RepM P w av ts b (off + 1) ds →
      RepM P w av (t :: ts) b off (d :: ds)
/-- Elements, one behind the other. -/
inductive RepE (P : Program) (w : World) (av : Av) : TypeId → Nat → Nat → List (List D) → Prop
  | nil {e : TypeId} {b off : Nat} : RepE P w av e b off []
  | cons {e : TypeId} {b off : Nat} {cs : List D} {es : List (List D)} : RepM P w av (cellTys P e) b off cs → RepE P w av e b (off + cs.length) es → RepE P w av e b off (cs :: es)
end

/-- What must hold of two worlds for readings to last. -/
def KeepsAv (av : Av) (w w' : World) (av' : Av) : Prop :=
  ∀ b off v, w.cell? ⟨b, off, none⟩ = some v → ¬ av b off → w'.cell? ⟨b, off, none⟩ = some v ∧ ¬ av' b off

section
variable {P : Program} {w w' : World} {av av' : Av}

theorem KeepsAv.refl (av : Av) (w : World) : KeepsAv av w w av := fun _ _ _ h k => ⟨h, k⟩
theorem KeepsAv.trans {w'' : World} {av'' : Av} (h : KeepsAv av w w' av') (k : KeepsAv av' w' w'' av'') : KeepsAv av w w'' av'' :=
  fun b o v hv ha => let ⟨h1, h2⟩ := h b o v hv ha; k b o v h1 h2

mutual
theorem Rep.keeps (hk : KeepsAv av w w' av') {t : TypeId} {v : Value} {d : D} : Rep P w av t v d → Rep P w' av' t v d
  | .bool h => .bool h
  | .int h a b => .int h a b
  | .str h a => .str h a
  | .agg h l => .agg h (l.keeps hk)
  | .nil h => .nil h
  | .sl h o c l => .sl h o c (l.keeps hk)
theorem RepL.keeps (hk : KeepsAv av w w' av') {ts : List TypeId} {vs : List Value} {ds : List D} : RepL P w av ts vs ds → RepL P w' av' ts vs ds
  | .nil => .nil
  | .cons h l => .cons (h.keeps hk) (l.keeps hk)
theorem RepM.keeps (hk : KeepsAv av w w' av') {ts : List TypeId} {b off : Nat} {ds : List D} : RepM P w av ts b off ds → RepM P w' av' ts b off ds
  | .nil => .nil
  | .cons h n r l => .cons (hk _ _ _ h n).1 (hk _ _ _ h n).2 (r.keeps hk) (l.keeps hk)
theorem RepE.keeps (hk : KeepsAv av w w' av') {e : TypeId} {b off : Nat} {es : List (List D)} : RepE P w av e b off es → RepE P w' av' e b off es
  | .nil => .nil
  | .cons h l => .cons (h.keeps hk) (l.keeps hk)
end

theorem RepL.length_tys {ts : List TypeId} {vs : List Value} {ds : List D} : RepL P w av ts vs ds → vs.length = ts.length
  | .nil => rfl
  | .cons _ l => by simp [l.length_tys]
theorem RepL.length_ds {ts : List TypeId} {vs : List Value} {ds : List D} : RepL P w av ts vs ds → ds.length = ts.length
  | .nil => rfl
  | .cons _ l => by simp [l.length_ds]
theorem RepM.length_ds {ts : List TypeId} {b off : Nat} {ds : List D} : RepM P w av ts b off ds → ds.length = ts.length
  | .nil => rfl
  | .cons _ _ _ l => by simp [l.length_ds]

theorem RepL.get {ts : List TypeId} {vs : List Value} {ds : List D} : RepL P w av ts vs ds → ∀ {j : Nat} {t : TypeId}, ts[j]? = some t →
    ∃ v d, vs[j]? = some v ∧ ds[j]? = some d ∧ Rep P w av t v d
  | .nil, j, t, h => by simp at h
  | .cons (v := v) (d := d) r l, 0, t, h => by simp at h; subst h; exact ⟨v, d, rfl, rfl, r⟩
  | .cons r l, j + 1, t, h => by simpa using l.get (by simpa using h)
theorem RepM.get {ts : List TypeId} {b off : Nat} {ds : List D} : RepM P w av ts b off ds → ∀ {j : Nat} {t : TypeId}, ts[j]? = some t →
    ∃ v d, w.cell? ⟨b, off + j, none⟩ = some v ∧ ¬ av b (off + j) ∧ ds[j]? = some d ∧ Rep P w av t v d
  | .nil, j, t, h => by simp at h
  | .cons (v := v) (d := d) c n r l, 0, t, h => by simp at h; subst h; exact ⟨v, d, c, n, rfl, r⟩
  | .cons c n r l, j + 1, t, h => by
    obtain ⟨v, d, a1, a2, a3, a4⟩ := l.get (j := j) (by simpa using h)
    exact ⟨v, d, by rw [← a1]; congr 2; omega, by rw [show off + (j + 1) = off + 1 + j by omega]; exact a2, by simpa using a3, a4⟩
theorem RepL.drop {ts : List TypeId} {vs : List Value} {ds : List D} : RepL P w av ts vs ds → ∀ n : Nat, RepL P w av (ts.drop n) (vs.drop n) (ds.drop n)
  | .nil, n => by simp; exact .nil
  | .cons r l, 0 => .cons r l
  | .cons r l, n + 1 => by simpa using l.drop n
theorem RepL.take {ts : List TypeId} {vs : List Value} {ds : List D} : RepL P w av ts vs ds → ∀ n : Nat, RepL P w av (ts.take n) (vs.take n) (ds.take n)
  | .nil, n => by simp; exact .nil
  | .cons r l, 0 => by simp; exact .nil
  | .cons r l, n + 1 => by simpa using .cons r (l.take n)
theorem RepL.append {ts ts' : List TypeId} {vs vs' : List Value} {ds ds' : List D} : RepL P w av ts vs ds → RepL P w av ts' vs' ds' → RepL P w av (ts ++ ts') (vs ++ vs') (ds ++ ds')
  | .nil, h => h
  | .cons r l, h => .cons r (l.append h)
theorem RepM.drop {ts : List TypeId} {b off : Nat} {ds : List D} : RepM P w av ts b off ds → ∀ n : Nat, n ≤ ts.length → RepM P w av (ts.drop n) b (off + n) (ds.drop n)
  | h, 0, _ => h
  | .nil, n + 1, hn => by simp at hn
  | .cons c a r l, n + 1, hn => by
    have := l.drop n (by simpa using hn)
    simpa [show off + (n + 1) = off + 1 + n by omega] using this
theorem RepM.take {ts : List TypeId} {b off : Nat} {ds : List D} : RepM P w av ts b off ds → ∀ n : Nat, RepM P w av (ts.take n) b off (ds.take n)
  | .nil, n => by simp; exact .nil
  | .cons c a r l, 0 => by simp; exact .nil
  | .cons c a r l, n + 1 => by simpa using .cons c a r (l.take n)
theorem RepM.append {ts ts' : List TypeId} {b off : Nat} {ds ds' : List D} : RepM P w av ts b off ds → RepM P w av ts' b (off + ts.length) ds' → RepM P w av (ts ++ ts') b off (ds ++ ds')
  | .nil, h => by simpa using h
  | .cons (ts := ts) c a r l, h => .cons c a r (l.append (by
      have e : off + (ts.length + 1) = off + 1 + ts.length := by omega
      simp only [List.length_cons] at h
      rwa [e] at h))
/-- the values that cells hold -/
theorem RepM.vals {ts : List TypeId} {b off : Nat} {ds : List D} : RepM P w av ts b off ds → ∃ vs : List Value, RepL P w av ts vs ds ∧ ∀ j v, vs[j]? = some v → w.cell? ⟨b, off + j, none⟩ = some v
  | .nil => ⟨[], .nil, by simp⟩
  | .cons (v := v) c a r l => by
    obtain ⟨vs, h1, h2⟩ := l.vals
    refine ⟨v :: vs, .cons r h1, fun j u hj => ?_⟩
    cases j with
    | zero => simp at hj; subst hj; exact c
    | succ j => rw [show off + (j + 1) = off + 1 + j by omega]; exact h2 j u (by simpa using hj)
theorem RepE.lens {e : TypeId} {b off : Nat} {es : List (List D)} : RepE P w av e b off es → ∀ x ∈ es, x.length = (cellTys P e).length
  | .nil, x, h => by simp at h
  | .cons m l, x, h => by
    rcases List.mem_cons.1 h with rfl | h
    · exact m.length_ds
    · exact l.lens x h
theorem RepE.get {e : TypeId} {b off : Nat} {es : List (List D)} : RepE P w av e b off es → ∀ {i : Nat} {x : List D}, es[i]? = some x → RepM P w av (cellTys P e) b (off + i * (cellTys P e).length) x
  | .nil, i, x, h => by simp at h
  | .cons m l, 0, x, h => by simp at h; subst h; simpa using m
  | .cons (cs := cs) m l, i + 1, x, h => by
    have := l.get (i := i) (by simpa using h)
    rw [m.length_ds] at this
    rw [Nat.add_mul, show off + (i * (cellTys P e).length + 1 * (cellTys P e).length) = off + (cellTys P e).length + i * (cellTys P e).length by omega]
    exact this
theorem RepE.drop {e : TypeId} {b off : Nat} {es : List (List D)} : RepE P w av e b off es → ∀ n : Nat, n ≤ es.length → RepE P w av e b (off + n * (cellTys P e).length) (es.drop n)
  | h, 0, _ => by simpa using h
  | .nil, n + 1, hn => by simp at hn
  | .cons (cs := cs) m l, n + 1, hn => by
    have := l.drop n (by simpa using hn)
    rw [m.length_ds] at this
    rw [Nat.add_mul, show off + (n * (cellTys P e).length + 1 * (cellTys P e).length) = off + (cellTys P e).length + n * (cellTys P e).length by omega]
    simpa using this
theorem RepE.take {e : TypeId} {b off : Nat} {es : List (List D)} : RepE P w av e b off es → ∀ n : Nat, RepE P w av e b off (es.take n)
  | .nil, n => by simp; exact .nil
  | .cons m l, 0 => by simp; exact .nil
  | .cons m l, n + 1 => by simpa using .cons m (l.take n)
theorem RepE.append {e : TypeId} {b off : Nat} {es es' : List (List D)} : RepE P w av e b off es → RepE P w av e b (off + es.length * (cellTys P e).length) es' → RepE P w av e b off (es ++ es')
  | .nil, h => by simpa using h
  | .cons (cs := cs) (es := es) m l, h => .cons m (l.append (by
      rw [m.length_ds]
      simp only [List.length_cons, Nat.add_mul, Nat.one_mul] at h
      rwa [show off + (cellTys P e).length + es.length * (cellTys P e).length = off + (es.length * (cellTys P e).length + (cellTys P e).length) by omega]))

/-! Types that read alike. -/
theorem isAg_cases {t : TypeId} (h : isAg P t = true) : (∃ fs, P.underlying t = some (.struct fs)) ∨ ∃ n e, P.underlying t = some (.array n e) := by
  unfold isAg at h
  split at h
  · exact .inl ⟨_, ‹_›⟩
  · exact .inr ⟨_, _, ‹_›⟩
  · simp at h
theorem sameTy_rep {t u : TypeId} (hs : sameTy P t u = true) {v : Value} {d : D} (h : Rep P w av t v d) : Rep P w av u v d := by
  unfold sameTy at hs
  simp only [Bool.or_eq_true, Bool.and_eq_true, beq_iff_eq] at hs
  rcases hs with (hs | ⟨⟨h1, h2⟩, h3⟩) | hs
  · exact hs ▸ h
  · cases h with
    | agg hg l => exact .agg h2 (h3 ▸ l)
    | bool hu => rcases isAg_cases h1 with ⟨_, hx⟩ | ⟨_, _, hx⟩ <;> simp [hx] at hu
    | int hu => rcases isAg_cases h1 with ⟨_, hx⟩ | ⟨_, _, hx⟩ <;> simp [hx] at hu
    | str hu => rcases isAg_cases h1 with ⟨_, hx⟩ | ⟨_, _, hx⟩ <;> simp [hx] at hu
    | nil hu => rcases isAg_cases h1 with ⟨_, hx⟩ | ⟨_, _, hx⟩ <;> simp [hx] at hu
    | sl hu => rcases isAg_cases h1 with ⟨_, hx⟩ | ⟨_, _, hx⟩ <;> simp [hx] at hu
  · split at hs <;> rename_i ht hu
    · simp only [beq_iff_eq] at hs; subst hs
      cases h with
      | int hk a b => rw [ht] at hk; cases hk; exact .int hu a b
      | bool hk => simp [ht] at hk
      | str hk => simp [ht] at hk
      | agg hg => simp [isAg, ht] at hg
      | nil hk => simp [ht] at hk
      | sl hk => simp [ht] at hk
    · cases h with
      | bool hk => exact .bool hu
      | int hk => simp [ht] at hk
      | str hk => simp [ht] at hk
      | agg hg => simp [isAg, ht] at hg
      | nil hk => simp [ht] at hk
      | sl hk => simp [ht] at hk
    · cases h with
      | str hk a => exact .str hu a
      | int hk => simp [ht] at hk
      | bool hk => simp [ht] at hk
      | agg hg => simp [isAg, ht] at hg
      | nil hk => simp [ht] at hk
      | sl hk => simp [ht] at hk
    · simp only [beq_iff_eq] at hs; subst hs
      cases h with
      | nil hk => exact .nil hu
      | sl hk o c l => rw [ht] at hk; cases hk; exact .sl hu o c l
      | int hk => simp [ht] at hk
      | bool hk => simp [ht] at hk
      | str hk => simp [ht] at hk
      | agg hg => simp [isAg, ht] at hg
    · simp at hs
end
end Go.RX
namespace Go.RX

/-- Where an object lies, and which value names it. -/
structure Place where
  block : Option Nat
  val : Value
  deriving Inhabited
abbrev Pl := Nat → Option Place

section defs
variable (P : Program) (w : World) (av : Av) (m : Pl) (ρ : List D)
mutual
/-- A value is what a symbolic value says. -/
def RepS : SV → Value → Prop
  | .any, _ => True
  | .undef, v => v = Go.undef
  | .x a t, v => Rep P w av t v (a.den ρ)
  | .nil, _ => False
  | .cons _ _, _ => False
  | .agg cs, v => ∃ vs, v = .agg vs ∧ RepSL cs vs.toList
  | .tup cs, v => ∃ vs, v = .tuple vs ∧ RepSL cs vs.toList
  | .own r, v => ∃ p, m r = some p ∧ v = p.val ∧ ∃ a n c, v = .slice a n c
  | .ptr o off, v => ∃ p b, m o = some p ∧ p.val = .pointer (some ⟨b, 0, none⟩) ∧ v = .pointer (some ⟨b, off, none⟩)
  | .nilp, v => v = .pointer none
  | .nils, v => v = .slice none 0 0
  | .full a t, v => Rep P w av t v (a.den ρ) ∧ ∃ b n, v = .slice b n n
  | .iptr e a off, v => ∃ b o, v = .pointer (some ⟨b, o + off, none⟩) ∧ RepM P w av (cellTys P e) b o (a.den ρ).aggL
  | .rptr e r i off, v => ∃ p b n c, m r = some p ∧ p.val = .slice (some ⟨b, 0, none⟩) n c ∧ 0 ≤ (i.den ρ).toInt ∧ (i.den ρ).toInt.toNat < n ∧
      v = .pointer (some ⟨b, (i.den ρ).toInt.toNat * (cellTys P e).length + off, none⟩)
  | .clo f first caps, v => ∃ fs cs, v = .func (.func f) fs cs ∧ RepSL first fs.toList ∧ RepSL caps cs.toList
  | .nilf, v => v = .nilFunc
  | .nili, v => v = .nilIface
  | .ifv, v => ∃ t x, v = .iface t x
  | .lits es, v => ∃ b n c, v = .slice (some ⟨b, 0, none⟩) n c ∧ n = es.toL.length ∧ RepSM es b 0
  | .lptr a, v => ∃ b off x, v = .pointer (some ⟨b, off, none⟩) ∧ w.cell? ⟨b, off, none⟩ = some x ∧ ¬ av b off ∧ RepS a x
  | .mp o, v => ∃ p, m o = some p ∧ v = p.val ∧ ∃ r, v = .map (some r)
def RepSL : SV → List Value → Prop
  | .nil, vs => vs = []
  | .cons a b, vs => ∃ v r, vs = v :: r ∧ RepS a v ∧ RepSL b r
  | _, _ => False
def RepSM : SV → Nat → Nat → Prop
  | .nil, _, _ => True
  | .cons a c, b, off => ∃ v, w.cell? ⟨b, off, none⟩ = some v ∧ ¬ av b off ∧ RepS a v ∧ RepSM c b (off + 1)
  | _, _, _ => False
end

/-- A row's elements as cells. -/
def rowTys (e : TypeId) (n : Nat) : List TypeId := (List.replicate n (cellTys P e)).flatten
/-- A map's entries. -/
def RepEnts (kt vt : TypeId) : List MapEntry → List (List D) → Prop
  | [], [] => True
  | e :: es, row :: rows => (∃ k v, row = [k, v] ∧ Rep P w av kt e.key k ∧ Rep P w av vt e.val v) ∧ RepEnts kt vt es rows
  | _, _ => False

/-- An object is what its symbol says. -/
def ObjOk (p : Option Place) : SObj → Prop
  | .dead => True
  | .box cs => ∃ b vs T, p = some ⟨some b, .pointer (some ⟨b, 0, none⟩)⟩ ∧ w.heap[b]? = some (.cells vs T (0, 0)) ∧ RepSL P w av m ρ cs vs.toList
  | .rbox cs => ∃ b vs T fz, p = some ⟨some b, .pointer (some ⟨b, 0, none⟩)⟩ ∧ w.heap[b]? = some (.cells vs T fz) ∧ RepSL P w av m ρ cs vs.toList
  | .row e c _ => ∃ es xs v, p = some ⟨v.ownBlock, v⟩ ∧ c.den ρ = .sl es ∧ SlOk P e es ∧ w.ownsRow 0 e (cellTys P e).length v es.length xs ∧ (∀ x ∈ es, x.length = (cellTys P e).length) ∧
      RepL P w av (rowTys P e es.length) xs es.flatten
  | .siter s pos => ∃ r l k, p = some ⟨some r, .pointer (some ⟨r, 0, none⟩)⟩ ∧ s.den ρ = .str l ∧ pos.den ρ = .int k ∧ 0 ≤ k ∧ (l.length : Int) ≤ 9223372036854775807 ∧ w.heap[r]? = some (.stringIter ⟨l.toArray⟩ k.toNat)
  | .map kt vt c => ∃ r es clock l, p = some ⟨some r, .map (some r)⟩ ∧ w.heap[r]? = some (.map es clock) ∧ c.den ρ = .sl l ∧ RepEnts P w av kt vt es.toList l

/-- Which of its cells an object may still change. -/
def region (ob : SObj) (off : Nat) : Prop :=
  match ob with
  | .box _ => True
  | .row _ _ true => True
  | .row e c false => (c.den ρ).toSl.length * (cellTys P e).length ≤ off
  | .siter _ _ => True
  | .map _ _ _ => True
  | _ => False
/-- it is written, some time -/
def writable : SObj → Prop
  | .box _ | .row _ _ _ | .siter _ _ | .map _ _ _ => True
  | _ => False
def avOf (F : Av) (H : List SObj) : Av := fun b off => F b off ∨ ∃ o p, m o = some p ∧ p.block = some b ∧ region P ρ (hget H o) off
end defs

/-- What a call began with: its world, the blocks that it may write, the cells that it may change. -/
structure Base where
  w0 : World
  ow : Nat → Prop
  av0 : Av
  /-- cells of others, that may change -/
  fr : Av
/-- Nothing but blocks of 'ow' and new ones have turned. -/
structure Ext (ow : Nat → Prop) (w w' : World) : Prop where
  os : w'.os = w.os
  tape : w'.tape = w.tape
  output : w'.output = w.output
  size : w.heap.size ≤ w'.heap.size
  block : ∀ b, b < w.heap.size → ¬ ow b → w'.heap[b]? = w.heap[b]?

structure Sim (P : Program) (B : Base) (ρ : List D) (H : List SObj) (m : Pl) (w : World) : Prop where
  ok : ∀ o, ObjOk P w (avOf P m ρ B.fr H) m ρ (m o) (hget H o)
  inj : ∀ o o' p p' b, hget H o ≠ .dead → hget H o' ≠ .dead → m o = some p → m o' = some p' → p.block = some b → p'.block = some b → o = o'
  base : ∀ o p b, writable (hget H o) → m o = some p → p.block = some b → B.ow b ∨ B.w0.heap.size ≤ b
  ext : Ext B.ow B.w0 w
  keep : KeepsAv B.av0 B.w0 w (avOf P m ρ B.fr H)
  apart : ∀ o p b off, writable (hget H o) → m o = some p → p.block = some b → ¬ B.fr b off
  old : ∀ b off, B.fr b off → b < B.w0.heap.size

section lemmas
variable {P : Program} {w w' : World} {av av' : Av} {m m' : Pl} {ρ : List D}

/-- The one map knows all places that the other knows. -/
def Pl.le (m m' : Pl) : Prop := ∀ o p, m o = some p → m' o = some p
theorem Pl.le_refl (m : Pl) : Pl.le m m := fun _ _ h => h
theorem Pl.le_trans {m m' m'' : Pl} (h : Pl.le m m') (k : Pl.le m' m'') : Pl.le m m'' := fun o p x => k o p (h o p x)

mutual
theorem RepS.keeps (hk : KeepsAv av w w' av') (hm : Pl.le m m') : ∀ (s : SV) {v : Value}, RepS P w av m ρ s v → RepS P w' av' m' ρ s v
  | .any, _, _ => by simp [RepS]
  | .undef, _, h => by simpa [RepS] using h
  | .x a t, _, h => by simp only [RepS] at h ⊢; exact h.keeps hk
  | .nil, _, h => by simp [RepS] at h
  | .cons _ _, _, h => by simp [RepS] at h
  | .agg cs, _, h => by
    simp only [RepS] at h ⊢
    obtain ⟨vs, h1, h2⟩ := h
    exact ⟨vs, h1, RepSL.keeps hk hm cs h2⟩
  | .tup cs, _, h => by
    simp only [RepS] at h ⊢
    obtain ⟨vs, h1, h2⟩ := h
    exact ⟨vs, h1, RepSL.keeps hk hm cs h2⟩
  | .own r, _, h => by
    simp only [RepS] at h ⊢
    obtain ⟨p, h1, h2⟩ := h
    exact ⟨p, hm _ _ h1, h2⟩
  | .ptr o off, _, h => by
    simp only [RepS] at h ⊢
    obtain ⟨p, b, h1, h2⟩ := h
    exact ⟨p, b, hm _ _ h1, h2⟩
  | .nilp, _, h => by simpa [RepS] using h
  | .nils, _, h => by simpa [RepS] using h
  | .full a t, _, h => by simp only [RepS] at h ⊢; exact ⟨h.1.keeps hk, h.2⟩
  | .iptr e a off, _, h => by
    simp only [RepS] at h ⊢
    obtain ⟨b, o, h1, h2⟩ := h
    exact ⟨b, o, h1, h2.keeps hk⟩
  | .rptr e r i off, _, h => by
    simp only [RepS] at h ⊢
    obtain ⟨p, b, n, c, h1, h2⟩ := h
    exact ⟨p, b, n, c, hm _ _ h1, h2⟩
  | .clo f first caps, _, h => by
    simp only [RepS] at h ⊢
    obtain ⟨fs, cs, h1, h2, h3⟩ := h
    exact ⟨fs, cs, h1, RepSL.keeps hk hm first h2, RepSL.keeps hk hm caps h3⟩
  | .nilf, _, h => by simpa [RepS] using h
  | .nili, _, h => by simpa [RepS] using h
  | .ifv, _, h => by simpa [RepS] using h
  | .lits es, _, h => by
    simp only [RepS] at h ⊢
    obtain ⟨b, n, c, h1, h2, h3⟩ := h
    exact ⟨b, n, c, h1, h2, RepSM.keeps hk hm es h3⟩
  | .lptr a, _, h => by
    simp only [RepS] at h ⊢
    obtain ⟨b, off, x, h1, h2, h3, h4⟩ := h
    exact ⟨b, off, x, h1, (hk _ _ _ h2 h3).1, (hk _ _ _ h2 h3).2, RepS.keeps hk hm a h4⟩
  | .mp o, _, h => by
    simp only [RepS] at h ⊢
    obtain ⟨p, h1, h2⟩ := h
    exact ⟨p, hm _ _ h1, h2⟩
theorem RepSL.keeps (hk : KeepsAv av w w' av') (hm : Pl.le m m') : ∀ (s : SV) {vs : List Value}, RepSL P w av m ρ s vs → RepSL P w' av' m' ρ s vs
  | .nil, _, h => by simpa [RepSL] using h
  | .cons a b, _, h => by
    simp only [RepSL] at h ⊢
    obtain ⟨v, r, h1, h2, h3⟩ := h
    exact ⟨v, r, h1, RepS.keeps hk hm a h2, RepSL.keeps hk hm b h3⟩
  | .any, _, h | .undef, _, h | .x _ _, _, h | .agg _, _, h | .tup _, _, h | .own _, _, h | .ptr _ _, _, h | .nilp, _, h | .nils, _, h | .full _ _, _, h | .iptr _ _ _, _, h | .rptr _ _ _ _, _, h
  | .clo _ _ _, _, h | .nilf, _, h | .nili, _, h | .ifv, _, h | .lits _, _, h | .lptr _, _, h | .mp _, _, h => by simp [RepSL] at h
theorem RepSM.keeps (hk : KeepsAv av w w' av') (hm : Pl.le m m') : ∀ (s : SV) {b off : Nat}, RepSM P w av m ρ s b off → RepSM P w' av' m' ρ s b off
  | .nil, _, _, _ => by simp [RepSM]
  | .cons a c, _, _, h => by
    simp only [RepSM] at h ⊢
    obtain ⟨v, h1, h2, h3, h4⟩ := h
    exact ⟨v, (hk _ _ _ h1 h2).1, (hk _ _ _ h1 h2).2, RepS.keeps hk hm a h3, RepSM.keeps hk hm c h4⟩
  | .any, _, _, h | .undef, _, _, h | .x _ _, _, _, h | .agg _, _, _, h | .tup _, _, _, h | .own _, _, _, h | .ptr _ _, _, _, h | .nilp, _, _, h | .nils, _, _, h | .full _ _, _, _, h | .iptr _ _ _, _, _, h | .rptr _ _ _ _, _, _, h
  | .clo _ _ _, _, _, h | .nilf, _, _, h | .nili, _, _, h | .ifv, _, _, h | .lits _, _, _, h | .lptr _, _, _, h | .mp _, _, _, h => by simp [RepSM] at h
end

theorem cell?_of_heap_eq {b : Nat} (h : w'.heap[b]? = w.heap[b]?) (off : Nat) : w'.cell? ⟨b, off, none⟩ = w.cell? ⟨b, off, none⟩ := World.cell?_of_block (a := ⟨b, off, none⟩) h

theorem RepEnts.keeps (hk : KeepsAv av w w' av') {kt vt : TypeId} : ∀ {es : List MapEntry} {rows : List (List D)}, RepEnts P w av kt vt es rows → RepEnts P w' av' kt vt es rows
  | [], [], _ => trivial
  | _ :: _, _ :: _, ⟨⟨k, v, h1, h2, h3⟩, h4⟩ => ⟨⟨k, v, h1, h2.keeps hk, h3.keeps hk⟩, RepEnts.keeps hk h4⟩
  | [], _ :: _, h => h.elim
  | _ :: _, [], h => h.elim

theorem ownsRow_block {e : TypeId} {sz n : Nat} {v : Value} {xs : List Value} (h : w.ownsRow 0 e sz v n xs) (hb : ∀ b, v.ownBlock = some b → w'.heap[b]? = w.heap[b]?) : w'.ownsRow 0 e sz v n xs := by
  refine ⟨h.1, ?_⟩
  rcases h.2 with h2 | ⟨g, cap, cur, rfl, h3, h4, h5⟩
  · exact .inl h2
  · exact .inr ⟨g, cap, cur, rfl, h3, by rw [hb g rfl]; exact h4, h5⟩

/-- An object is as it was where its block is. -/
theorem ObjOk.keeps (hk : KeepsAv av w w' av') (hm : Pl.le m m') {p : Option Place} {ob : SObj} (hb : ∀ q b, p = some q → q.block = some b → w'.heap[b]? = w.heap[b]?)
    (h : ObjOk P w av m ρ p ob) : ObjOk P w' av' m' ρ p ob := by
  cases ob with
  | dead => trivial
  | box cs =>
    obtain ⟨b, vs, T, h1, h2, h3⟩ := h
    exact ⟨b, vs, T, h1, by rw [hb _ b h1 rfl]; exact h2, RepSL.keeps hk hm cs h3⟩
  | rbox cs =>
    obtain ⟨b, vs, T, fz, h1, h2, h3⟩ := h
    exact ⟨b, vs, T, fz, h1, by rw [hb _ b h1 rfl]; exact h2, RepSL.keeps hk hm cs h3⟩
  | row e c wr =>
    obtain ⟨es, xs, v, h1, h2, h3, h4, h5, h6⟩ := h
    exact ⟨es, xs, v, h1, h2, h3, ownsRow_block h4 (fun b hv => hb _ b h1 hv), h5, h6.keeps hk⟩
  | siter s pos =>
    obtain ⟨r, l, k, h1, h2, h3, h4, h5, h6⟩ := h
    exact ⟨r, l, k, h1, h2, h3, h4, h5, by rw [hb _ r h1 rfl]; exact h6⟩
  | map kt vt c =>
    obtain ⟨r, es, clock, l, h1, h2, h3, h4⟩ := h
    exact ⟨r, es, clock, l, h1, by rw [hb _ r h1 rfl]; exact h2, h3, h4.keeps hk⟩

/-- A live object's block is there. -/
theorem ObjOk.lt {p : Place} {ob : SObj} (hl : ob ≠ .dead) (h : ObjOk P w av m ρ (some p) ob) {b : Nat} (hb : p.block = some b) : b < w.heap.size := by
  have lt : ∀ {o : Obj}, w.heap[b]? = some o → b < w.heap.size := fun h => (Array.getElem?_eq_some_iff.1 h).1
  cases ob with
  | dead => exact (hl rfl).elim
  | box cs => obtain ⟨b', vs, T, h1, h2, _⟩ := h; cases h1; cases hb; exact lt h2
  | rbox cs => obtain ⟨b', vs, T, fz, h1, h2, _⟩ := h; cases h1; cases hb; exact lt h2
  | row e c wr =>
    obtain ⟨es, xs, v, h1, _, _, h4, _⟩ := h
    cases h1
    exact (h4.lt b hb).2
  | siter s pos => obtain ⟨r, l, k, h1, _, _, _, _, h6⟩ := h; cases h1; cases hb; exact lt h6
  | map kt vt c => obtain ⟨r, es, clock, l, h1, h2, _⟩ := h; cases h1; cases hb; exact lt h2
theorem ObjOk.some {p : Option Place} {ob : SObj} (hl : ob ≠ .dead) (h : ObjOk P w av m ρ p ob) : ∃ q, p = some q := by
  cases ob with
  | dead => exact (hl rfl).elim
  | box cs => obtain ⟨_, _, _, h1, _⟩ := h; exact ⟨_, h1⟩
  | rbox cs => obtain ⟨_, _, _, _, h1, _⟩ := h; exact ⟨_, h1⟩
  | row e c wr => obtain ⟨_, _, _, h1, _⟩ := h; exact ⟨_, h1⟩
  | siter s pos => obtain ⟨_, _, _, h1, _⟩ := h; exact ⟨_, h1⟩
  | map kt vt c => obtain ⟨_, _, _, _, h1, _⟩ := h; exact ⟨_, h1⟩

theorem Ext.refl (ow : Nat → Prop) (w : World) : Ext ow w w := ⟨rfl, rfl, rfl, Nat.le_refl _, fun _ _ _ => rfl⟩
theorem Ext.trans {ow ow' : Nat → Prop} {a b c : World} (h : Ext ow a b) (k : Ext ow' b c) (ho : ∀ x, x < a.heap.size → ow' x → ow x) : Ext ow a c :=
  ⟨k.os.trans h.os, k.tape.trans h.tape, k.output.trans h.output, Nat.le_trans h.size k.size, fun x hx hn =>
    (k.block x (Nat.lt_of_lt_of_le hx h.size) (fun hy => hn (ho x hx hy))).trans (h.block x hx hn)⟩

/-- A step: objects of U are turned, the others stay. -/
theorem Sim.update {B : Base} {H H' : List SObj} (U : Nat → Prop) (h : Sim P B ρ H m w)
    (hH : ∀ o, ¬ U o → hget H' o = hget H o) (hm : Pl.le m m') (hmU : ∀ o, ¬ U o → m' o = m o)
    (hk : KeepsAv (avOf P m ρ B.fr H) w w' (avOf P m' ρ B.fr H'))
    (hx : Ext (fun b => ∃ o p, U o ∧ writable (hget H o) ∧ m o = some p ∧ p.block = some b) w w')
    (hok : ∀ o, U o → ObjOk P w' (avOf P m' ρ B.fr H') m' ρ (m' o) (hget H' o))
    (hnew : ∀ o p b, U o → hget H' o ≠ .dead → m' o = some p → p.block = some b → w.heap.size ≤ b ∨ ∃ o0 p0, U o0 ∧ writable (hget H o0) ∧ m o0 = some p0 ∧ p0.block = some b)
    (hinj : ∀ o o' p p' b, U o → U o' → hget H' o ≠ .dead → hget H' o' ≠ .dead → m' o = some p → m' o' = some p' → p.block = some b → p'.block = some b → o = o') :
    Sim P B ρ H' m' w' := by
  have old : ∀ o p b, ¬ U o → hget H o ≠ .dead → m o = some p → p.block = some b → b < w.heap.size ∧ ¬ ∃ o0 p0, U o0 ∧ writable (hget H o0) ∧ m o0 = some p0 ∧ p0.block = some b := by
    intro o p b hU hl hp hb
    refine ⟨ObjOk.lt hl (hp ▸ h.ok o) hb, ?_⟩
    rintro ⟨o0, p0, hU0, hw0, hp0, hb0⟩
    have hl0 : hget H o0 ≠ .dead := fun e => by rw [e] at hw0; exact hw0
    exact hU (h.inj o o0 p p0 b hl hl0 hp hp0 hb hb0 ▸ hU0)
  refine ⟨fun o => ?_, fun o o' p p' b hl hl' hp hp' hb hb' => ?_, fun o p b hw hp hb => ?_, ?_, ?_, fun o p b off hl hp hb hf => ?_, h.old⟩
  · by_cases hU : U o
    · exact hok o hU
    · rw [hH o hU, hmU o hU]
      by_cases hl : hget H o = .dead
      · rw [hl]; trivial
      · exact ObjOk.keeps hk hm (fun q b hq hb => hx.block b (old o q b hU hl hq hb).1 (old o q b hU hl hq hb).2) (h.ok o)
  · by_cases hU : U o <;> by_cases hU' : U o'
    · exact hinj o o' p p' b hU hU' hl hl' hp hp' hb hb'
    · rw [hH o' hU'] at hl'; rw [hmU o' hU'] at hp'
      have hx' := old o' p' b hU' hl' hp' hb'
      rcases hnew o p b hU hl hp hb with hn | hn
      · omega
      · exact (hx'.2 hn).elim
    · rw [hH o hU] at hl; rw [hmU o hU] at hp
      have hx' := old o p b hU hl hp hb
      rcases hnew o' p' b hU' hl' hp' hb' with hn | hn
      · omega
      · exact (hx'.2 hn).elim
    · rw [hH o hU] at hl; rw [hmU o hU] at hp; rw [hH o' hU'] at hl'; rw [hmU o' hU'] at hp'
      exact h.inj o o' p p' b hl hl' hp hp' hb hb'
  · by_cases hU : U o
    · have hl : hget H' o ≠ .dead := fun e => by rw [e] at hw; exact hw
      rcases hnew o p b hU hl hp hb with hn | ⟨o0, p0, _, hw0, hp0, hb0⟩
      · exact .inr (Nat.le_trans h.ext.size hn)
      · exact h.base o0 p0 b hw0 hp0 hb0
    · rw [hH o hU] at hw; rw [hmU o hU] at hp
      exact h.base o p b hw hp hb
  · refine h.ext.trans hx ?_
    rintro x hx ⟨o0, p0, _, hw0, hp0, hb0⟩
    rcases h.base o0 p0 x hw0 hp0 hb0 with h | h
    · exact h
    · omega
  · exact h.keep.trans hk
  · by_cases hU : U o
    · have hl' : hget H' o ≠ .dead := fun e => by rw [e] at hl; exact hl
      rcases hnew o p b hU hl' hp hb with hn | ⟨o0, p0, _, hw0, hp0, hb0⟩
      · have := h.old b off hf
        have := h.ext.size
        omega
      · exact h.apart o0 p0 b off hw0 hp0 hb0 hf
    · rw [hH o hU] at hl; rw [hmU o hU] at hp
      exact h.apart o p b off hl hp hb hf
end lemmas
end Go.RX
namespace Go.RX

/-! Heaps by number. -/
theorem hget_nil (o : Nat) : hget [] o = .dead := by simp [hget]
theorem hget_cons_zero (a : SObj) (H : List SObj) : hget (a :: H) 0 = a := by simp [hget]
theorem hget_cons_succ (a : SObj) (H : List SObj) (o : Nat) : hget (a :: H) (o + 1) = hget H o := by simp [hget]
theorem hget_hset : ∀ (H : List SObj) (n : Nat) (ob : SObj) (o : Nat), hget (hset H n ob) o = if o = n then ob else hget H o
  | [], 0, ob, 0 => by simp [hset, hget]
  | [], 0, ob, o + 1 => by simp [hset, hget]
  | [], n + 1, ob, 0 => by simp [hset, hget]
  | [], n + 1, ob, o + 1 => by
    have := hget_hset [] n ob o
    simp only [hset, hget_cons_succ, this, hget_nil, Nat.add_right_cancel_iff]
  | a :: H, 0, ob, 0 => by simp [hset, hget]
  | a :: H, 0, ob, o + 1 => by simp [hset, hget]
  | a :: H, n + 1, ob, 0 => by simp [hset, hget]
  | a :: H, n + 1, ob, o + 1 => by
    have := hget_hset H n ob o
    simp only [hset, hget_cons_succ, this, Nat.add_right_cancel_iff]
theorem hget_hsets_out : ∀ (l : List (Nat × SObj)) (H : List SObj) (o : Nat), (∀ q ∈ l, q.1 ≠ o) → hget (hsets H l) o = hget H o
  | [], _, _, _ => rfl
  | (n, ob) :: l, H, o, h => by
    rw [hsets, hget_hsets_out l _ o (fun q hq => h q (List.mem_cons_of_mem _ hq)), hget_hset, if_neg (fun e => h (n, ob) (List.mem_cons_self ..) e.symm)]
theorem hget_none {H : List SObj} {o : Nat} (h : H.length ≤ o) : hget H o = .dead := by
  simp [hget, List.getElem?_eq_none h]

section
variable {P : Program} {w : World} {av : Av} {m : Pl} {ρ : List D}

/-! Types. -/
theorem intKind_eq {t : TypeId} {k : IntKind} : intKind P t = some k ↔ P.underlying t = some (.int k) := by
  unfold intKind
  split <;> simp_all
theorem isBool_eq {t : TypeId} : isBool P t = true ↔ P.underlying t = some .bool := by
  unfold isBool
  split <;> simp_all
theorem isStr_eq {t : TypeId} : isStr P t = true ↔ P.underlying t = some .string := by
  unfold isStr
  split <;> simp_all
theorem elemTy_eq {t e : TypeId} : elemTy P t = some e ↔ P.underlying t = some (.slice e) := by
  unfold elemTy
  split <;> simp_all

/-! What data of a type is. -/
theorem Rep.ofInt {t : TypeId} {k : IntKind} (hk : P.underlying t = some (.int k)) {v : Value} {d : D} (h : Rep P w av t v d) : v = .int k d.toInt ∧ d = .int d.toInt ∧ k.min ≤ d.toInt ∧ d.toInt ≤ k.max := by
  cases h with
  | int h a b => rw [hk] at h; cases h; exact ⟨rfl, rfl, a, b⟩
  | bool h => simp [hk] at h
  | str h => simp [hk] at h
  | agg h => simp [isAg, hk] at h
  | nil h => simp [hk] at h
  | sl h => simp [hk] at h
theorem Rep.ofBool {t : TypeId} (hk : P.underlying t = some .bool) {v : Value} {d : D} (h : Rep P w av t v d) : v = .bool d.toBool ∧ d = .bool d.toBool := by
  cases h with
  | bool h => exact ⟨rfl, rfl⟩
  | int h => simp [hk] at h
  | str h => simp [hk] at h
  | agg h => simp [isAg, hk] at h
  | nil h => simp [hk] at h
  | sl h => simp [hk] at h
theorem Rep.ofStr {t : TypeId} (hk : P.underlying t = some .string) {v : Value} {d : D} (h : Rep P w av t v d) : v = .string ⟨d.toStr.toArray⟩ ∧ d = .str d.toStr ∧ (d.toStr.length : Int) ≤ 9223372036854775807 := by
  cases h with
  | str h a => exact ⟨rfl, rfl, a⟩
  | int h => simp [hk] at h
  | bool h => simp [hk] at h
  | agg h => simp [isAg, hk] at h
  | nil h => simp [hk] at h
  | sl h => simp [hk] at h
theorem Rep.ofSl {t e : TypeId} (hk : P.underlying t = some (.slice e)) {v : Value} {d : D} (h : Rep P w av t v d) : d = .sl d.toSl ∧ SlOk P e d.toSl ∧ ∃ a cap, v = .slice a d.toSl.length cap ∧
    (d.toSl = [] ∨ ∃ b off, a = some ⟨b, off, none⟩ ∧ d.toSl.length ≤ cap ∧ RepE P w av e b off d.toSl) := by
  cases h with
  | nil h => exact ⟨rfl, ⟨by simp [D.toSl], by simp [D.toSl]⟩, _, _, rfl, .inl rfl⟩
  | sl h o c l => rw [hk] at h; cases h; exact ⟨rfl, o, _, _, rfl, .inr ⟨_, _, rfl, c, l⟩⟩
  | int h => simp [hk] at h
  | bool h => simp [hk] at h
  | str h => simp [hk] at h
  | agg h => simp [isAg, hk] at h
theorem Rep.ofAg {t : TypeId} (hk : isAg P t = true) {v : Value} {d : D} (h : Rep P w av t v d) : d = .agg d.aggL ∧ ∃ vs, v = .agg vs.toArray ∧ RepL P w av (cellTys P t) vs d.aggL := by
  cases h with
  | agg h l => exact ⟨rfl, _, rfl, l⟩
  | int h => rcases isAg_cases hk with ⟨_, hx⟩ | ⟨_, _, hx⟩ <;> simp [hx] at h
  | bool h => rcases isAg_cases hk with ⟨_, hx⟩ | ⟨_, _, hx⟩ <;> simp [hx] at h
  | str h => rcases isAg_cases hk with ⟨_, hx⟩ | ⟨_, _, hx⟩ <;> simp [hx] at h
  | nil h => rcases isAg_cases hk with ⟨_, hx⟩ | ⟨_, _, hx⟩ <;> simp [hx] at h
  | sl h => rcases isAg_cases hk with ⟨_, hx⟩ | ⟨_, _, hx⟩ <;> simp [hx] at h
/-- what is no struct or array takes one cell -/
theorem Rep.oneCell {t : TypeId} (hk : isAg P t = false) {v : Value} {d : D} (h : Rep P w av t v d) : v.oneCell' = true ∧ v.cells = #[v] ∧ ∀ cs, d ≠ .agg cs := by
  cases h with
  | agg h => simp [hk] at h
  | _ => exact ⟨rfl, rfl, by simp⟩
theorem cellTysN_flat : ∀ (n : Nat) (t : TypeId), ∀ u ∈ cellTysN P n t, isAg P u = false
  | 0, t, u, h => by simp [cellTysN] at h
  | n + 1, t, u, h => by
    unfold cellTysN at h
    split at h
    · rw [List.mem_flatMap] at h
      obtain ⟨f, _, h⟩ := h
      exact cellTysN_flat n f.type u h
    · rw [List.mem_flatten] at h
      obtain ⟨l, hl, h⟩ := h
      rw [List.mem_replicate] at hl
      rw [hl.2] at h
      exact cellTysN_flat n _ u h
    · simp only [List.mem_singleton] at h
      subst h
      rename_i h1 h2
      unfold isAg
      split
      · rename_i hx; exact (h1 _ hx).elim
      · rename_i hx; exact (h2 _ _ hx).elim
      · rfl
theorem cellTys_flat {t u : TypeId} (h : u ∈ cellTys P t) : isAg P u = false := cellTysN_flat 8 t u h
theorem RepL.oneCells {ts : List TypeId} {vs : List Value} {ds : List D} : RepL P w av ts vs ds → (∀ u ∈ ts, isAg P u = false) → ∀ v ∈ vs, v.oneCell' = true
  | .nil, _, v, h => by simp at h
  | .cons r l, ht, v, h => by
    rcases List.mem_cons.1 h with rfl | h
    · exact (r.oneCell (ht _ (List.mem_cons_self ..))).1
    · exact l.oneCells (fun u hu => ht u (List.mem_cons_of_mem _ hu)) v h

/-! Constants. -/
theorem ofConst_rep (v : Value) (t : TypeId) : RepS P w av m ρ (ofConst P v t) v := by
  unfold ofConst
  split
  · split
    · simp only [RepS, X.den]; exact .bool (isBool_eq.1 ‹_›)
    · simp [RepS]
  · split
    · rename_i h
      simp only [Bool.and_eq_true, beq_iff_eq, decide_eq_true_eq] at h
      simp only [RepS, X.den]; exact .int (intKind_eq.1 h.1.1) h.1.2 h.2
    · simp [RepS]
  · split
    · rename_i s h
      simp only [Bool.and_eq_true, decide_eq_true_eq] at h
      simp only [RepS, X.den]
      have := Rep.str (P := P) (w := w) (av := av) (s := s.data.toList) (isStr_eq.1 h.1) (by omega)
      simpa using this
    · simp [RepS]
  all_goals simp [RepS]
theorem ofConsts_rep : ∀ (vs : List Value) (ts : List TypeId), vs.length = ts.length → RepSL P w av m ρ (.ofL (ofConsts P vs ts)) vs
  | [], [], _ => by simp [ofConsts, SV.ofL, RepSL]
  | v :: vs, t :: ts, h => by
    simp only [ofConsts, SV.ofL, RepSL]
    exact ⟨v, vs, rfl, ofConst_rep v t, ofConsts_rep vs ts (by simpa using h)⟩
  | [], _ :: _, h => by simp at h
  | _ :: _, [], h => by simp at h
theorem known_rep {fs : List (X × Bool)} (hf : ∀ x b, (x, b) ∈ fs → (x.den ρ).toBool = b) {s : SV} {v : Value} (h : RepS P w av m ρ s v) : RepS P w av m ρ (known P fs s) v := by
  unfold known
  split
  · split
    · rename_i a t q hq
      split
      · rename_i hb
        have hm := List.mem_of_find?_eq_some hq
        have hp := List.find?_some hq
        simp only [beq_iff_eq] at hp
        have := hf q.1 q.2 hm
        simp only [RepS, X.den] at h ⊢
        rw [hp] at this
        rw [← this, ← (h.ofBool (isBool_eq.1 hb)).2]; exact h
      · exact h
    · exact h
  · exact h
theorem ofL_toL_rep : ∀ (s : SV) {vs : List Value}, RepSL P w av m ρ s vs → RepSL P w av m ρ (.ofL s.toL) vs
  | .nil, _, h => by simpa [SV.toL, SV.ofL] using h
  | .cons a b, _, h => by
    simp only [RepSL, SV.toL, SV.ofL] at h ⊢
    obtain ⟨v, r, h1, h2, h3⟩ := h
    exact ⟨v, r, h1, h2, ofL_toL_rep b h3⟩
  | .any, _, h | .undef, _, h | .x _ _, _, h | .agg _, _, h | .tup _, _, h | .own _, _, h | .ptr _ _, _, h | .nilp, _, h | .nils, _, h | .full _ _, _, h | .iptr _ _ _, _, h | .rptr _ _ _ _, _, h
  | .clo _ _ _, _, h | .nilf, _, h | .nili, _, h | .ifv, _, h | .lits _, _, h | .lptr _, _, h | .mp _, _, h => by simp [RepSL] at h
/-- lists of symbolic values, as lists -/
def RepSs (P : Program) (w : World) (av : Av) (m : Pl) (ρ : List D) : List SV → List Value → Prop
  | [], [] => True
  | s :: ss, v :: vs => RepS P w av m ρ s v ∧ RepSs P w av m ρ ss vs
  | _, _ => False
theorem repSL_ofL : ∀ {ss : List SV} {vs : List Value}, RepSL P w av m ρ (.ofL ss) vs ↔ RepSs P w av m ρ ss vs
  | [], vs => by
    simp only [SV.ofL, RepSL]
    constructor
    · rintro rfl; trivial
    · intro h; cases vs with
      | nil => rfl
      | cons => exact h.elim
  | s :: ss, vs => by
    simp only [SV.ofL, RepSL]
    constructor
    · rintro ⟨v, r, rfl, h1, h2⟩; exact ⟨h1, repSL_ofL.1 h2⟩
    · intro h; cases vs with
      | nil => exact h.elim
      | cons v r => exact ⟨_, _, rfl, h.1, repSL_ofL.2 h.2⟩
theorem repSL_toL : ∀ (s : SV) {vs : List Value}, RepSL P w av m ρ s vs → RepSs P w av m ρ s.toL vs := fun s _ h => repSL_ofL.1 (ofL_toL_rep s h)

theorem RepSs.length : ∀ {ss : List SV} {vs : List Value}, RepSs P w av m ρ ss vs → ss.length = vs.length
  | [], [], _ => rfl
  | _ :: _, _ :: _, h => by simp [RepSs.length h.2]
  | [], _ :: _, h => h.elim
  | _ :: _, [], h => h.elim
theorem RepSs.get : ∀ {ss : List SV} {vs : List Value}, RepSs P w av m ρ ss vs → ∀ {i : Nat} {s : SV}, ss[i]? = some s → ∃ v, vs[i]? = some v ∧ RepS P w av m ρ s v
  | [], [], _, i, s, h => by simp at h
  | _ :: _, v :: _, h, 0, s, hs => by simp at hs; subst hs; exact ⟨v, rfl, h.1⟩
  | _ :: _, _ :: _, h, i + 1, s, hs => by simpa using RepSs.get h.2 (by simpa using hs)
  | [], _ :: _, h, _, _, _ => h.elim
  | _ :: _, [], h, _, _, _ => h.elim
theorem RepSs.drop : ∀ {ss : List SV} {vs : List Value}, RepSs P w av m ρ ss vs → ∀ n : Nat, RepSs P w av m ρ (ss.drop n) (vs.drop n)
  | _, _, h, 0 => by simpa using h
  | [], [], h, n + 1 => by simpa using h
  | _ :: _, _ :: _, h, n + 1 => by simpa using RepSs.drop h.2 n
  | [], _ :: _, h, _ => h.elim
  | _ :: _, [], h, _ => h.elim
theorem RepSs.take : ∀ {ss : List SV} {vs : List Value}, RepSs P w av m ρ ss vs → ∀ n : Nat, RepSs P w av m ρ (ss.take n) (vs.take n)
  | _, _, h, 0 => by simp [RepSs]
  | [], [], h, n + 1 => by simp [RepSs]
  | _ :: _, _ :: _, h, n + 1 => by simpa using ⟨h.1, RepSs.take h.2 n⟩
  | [], _ :: _, h, _ => h.elim
  | _ :: _, [], h, _ => h.elim
theorem RepSs.append : ∀ {ss ss' : List SV} {vs vs' : List Value}, RepSs P w av m ρ ss vs → RepSs P w av m ρ ss' vs' → RepSs P w av m ρ (ss ++ ss') (vs ++ vs')
  | [], _, [], _, _, h => h
  | _ :: _, _, _ :: _, _, h, k => ⟨h.1, RepSs.append h.2 k⟩
  | [], _, _ :: _, _, h, _ => h.elim
  | _ :: _, _, [], _, h, _ => h.elim
theorem RepSs.set : ∀ {ss : List SV} {vs : List Value}, RepSs P w av m ρ ss vs → ∀ (i : Nat) {s : SV} {v : Value}, RepS P w av m ρ s v → RepSs P w av m ρ (ss.set i s) (vs.set i v)
  | [], [], _, i, _, _, _ => by simp [RepSs]
  | _ :: _, _ :: _, h, 0, _, _, hs => ⟨hs, h.2⟩
  | _ :: _, _ :: _, h, i + 1, _, _, hs => ⟨h.1, RepSs.set h.2 i hs⟩
  | [], _ :: _, h, _, _, _, _ => h.elim
  | _ :: _, [], h, _, _, _, _ => h.elim
theorem RepSs.replicate {s : List SV} {v : List Value} (h : RepSs P w av m ρ s v) : ∀ n : Nat, RepSs P w av m ρ (List.replicate n s).flatten (List.replicate n v).flatten
  | 0 => by simp [RepSs]
  | n + 1 => by simpa [List.replicate_succ] using h.append (h.replicate n)

theorem aggL_agg (cs : List D) : (D.agg cs).aggL = cs := rfl
/-! Expressions that were made smaller say the same. -/
theorem mkFld_den : ∀ (a : X) (i : Nat), (a.mkFld i).den ρ = (X.fld a i).den ρ
  | .cons b c, 0 => by simp [X.mkFld, X.den, D.aggL]
  | .cons b c, i + 1 => by
    have := mkFld_den c i
    simp only [X.mkFld, this]
    simp [X.den, D.aggL]
  | .sub b off n, i => by
    unfold X.mkFld
    split
    · rename_i h
      simp only [X.den, D.aggL, List.getD_eq_getElem?_getD, List.getElem?_take, List.getElem?_drop, if_pos h]
    · rfl
  | .var _, _ | .hole, _ | .bool _, _ | .int _, _ | .str _, _ | .nil, _ | .fld _ _, _ | .bin _ _ _ _, _ | .cmp _ _ _, _ | .wrap _ _, _ | .beq _ _, _ | .not _, _ | .and _ _, _ | .or _ _, _ | .ite _ _ _, _
  | .scmp _ _ _, _ | .scat _ _, _ | .slen _, _ | .sidx _ _, _ | .ssub _ _ _, _ | .len _, _ | .idx _ _, _ | .lit _, _ | .app _ _, _ | .tk _ _ _, _ | .upd _ _ _ _, _ | .rep _ _, _ | .ruc _ _, _ | .ruw _ _, _
  | .mget _ _ _, _ | .mput _ _ _, _ | .fits _ _ _, _ | .sfits _ _, _ | .s2b _, _ | .b2s _, _ => by simp [X.mkFld]
theorem takeC_den : ∀ (a : X) (n : Nat) {b : X}, a.takeC n = some b → b.den ρ = .agg ((a.den ρ).aggL.take n)
  | a, 0, b, h => by simp [X.takeC] at h; subst h; simp [X.den]
  | .cons a c, n + 1, b, h => by
    simp only [X.takeC, Option.map_eq_some_iff] at h
    obtain ⟨d, h1, rfl⟩ := h
    have := takeC_den c n h1
    simp [X.den, this, D.aggL]
  | .var _, _ + 1, _, h | .hole, _ + 1, _, h | .bool _, _ + 1, _, h | .int _, _ + 1, _, h | .str _, _ + 1, _, h | .nil, _ + 1, _, h | .fld _ _, _ + 1, _, h | .bin _ _ _ _, _ + 1, _, h | .cmp _ _ _, _ + 1, _, h
  | .wrap _ _, _ + 1, _, h | .beq _ _, _ + 1, _, h | .not _, _ + 1, _, h | .and _ _, _ + 1, _, h | .or _ _, _ + 1, _, h | .ite _ _ _, _ + 1, _, h | .scmp _ _ _, _ + 1, _, h | .scat _ _, _ + 1, _, h
  | .slen _, _ + 1, _, h | .sidx _ _, _ + 1, _, h | .ssub _ _ _, _ + 1, _, h | .len _, _ + 1, _, h | .idx _ _, _ + 1, _, h | .lit _, _ + 1, _, h | .app _ _, _ + 1, _, h | .tk _ _ _, _ + 1, _, h
  | .upd _ _ _ _, _ + 1, _, h | .rep _ _, _ + 1, _, h | .ruc _ _, _ + 1, _, h | .ruw _ _, _ + 1, _, h | .mget _ _ _, _ + 1, _, h | .mput _ _ _, _ + 1, _, h | .fits _ _ _, _ + 1, _, h | .sfits _ _, _ + 1, _, h
  | .s2b _, _ + 1, _, h | .b2s _, _ + 1, _, h | .sub _ _ _, _ + 1, _, h => by simp [X.takeC] at h
theorem dropC_den : ∀ (a : X) (n : Nat) {b : X}, a.dropC n = some b → (b.den ρ).aggL = (a.den ρ).aggL.drop n
  | a, 0, b, h => by simp [X.dropC] at h; subst h; simp
  | .cons a c, n + 1, b, h => by
    simp only [X.dropC] at h
    have := dropC_den c n h
    simp only [X.den, this, aggL_agg, List.drop_succ_cons]
  | .var _, _ + 1, _, h | .hole, _ + 1, _, h | .bool _, _ + 1, _, h | .int _, _ + 1, _, h | .str _, _ + 1, _, h | .nil, _ + 1, _, h | .fld _ _, _ + 1, _, h | .bin _ _ _ _, _ + 1, _, h | .cmp _ _ _, _ + 1, _, h
  | .wrap _ _, _ + 1, _, h | .beq _ _, _ + 1, _, h | .not _, _ + 1, _, h | .and _ _, _ + 1, _, h | .or _ _, _ + 1, _, h | .ite _ _ _, _ + 1, _, h | .scmp _ _ _, _ + 1, _, h | .scat _ _, _ + 1, _, h
  | .slen _, _ + 1, _, h | .sidx _ _, _ + 1, _, h | .ssub _ _ _, _ + 1, _, h | .len _, _ + 1, _, h | .idx _ _, _ + 1, _, h | .lit _, _ + 1, _, h | .app _ _, _ + 1, _, h | .tk _ _ _, _ + 1, _, h
  | .upd _ _ _ _, _ + 1, _, h | .rep _ _, _ + 1, _, h | .ruc _ _, _ + 1, _, h | .ruw _ _, _ + 1, _, h | .mget _ _ _, _ + 1, _, h | .mput _ _ _, _ + 1, _, h | .fits _ _ _, _ + 1, _, h | .sfits _ _, _ + 1, _, h
  | .s2b _, _ + 1, _, h | .b2s _, _ + 1, _, h | .sub _ _ _, _ + 1, _, h => by simp [X.dropC] at h
theorem mkSub_den (a : X) (off n : Nat) : (a.mkSub off n).den ρ = (X.sub a off n).den ρ := by
  unfold X.mkSub
  split
  · rename_i b h
    rw [Option.bind_eq_some_iff] at h
    obtain ⟨c, h1, h2⟩ := h
    rw [takeC_den c n h2, dropC_den a off h1]
    simp [X.den]
  · rfl
theorem mkCmp_den (op : BinOp) (a b : X) : (X.mkCmp op a b).den ρ = (X.cmp op a b).den ρ := by
  unfold X.mkCmp
  split <;> simp [X.den, D.toInt]
theorem mkBin_den (op : BinOp) (k : IntKind) (a b : X) : (X.mkBin op k a b).den ρ = (X.bin op k a b).den ρ := by
  unfold X.mkBin
  split <;> simp [X.den, D.toInt]
theorem mkNot_den (a : X) : (a.mkNot).den ρ = (X.not a).den ρ := by
  unfold X.mkNot
  split <;> simp [X.den, D.toBool]
theorem mkIte_den (c a b : X) : (X.mkIte c a b).den ρ = (X.ite c a b).den ρ := by
  unfold X.mkIte
  split <;> simp [X.den, D.toBool]
theorem toL_den : ∀ (a : X) {l : List X}, a.toL = some l → (a.den ρ).aggL.length = l.length
  | .nil, l, h => by simp [X.toL] at h; subst h; simp [X.den, D.aggL]
  | .cons a b, l, h => by
    simp only [X.toL, Option.map_eq_some_iff] at h
    obtain ⟨r, h1, rfl⟩ := h
    simp only [X.den, aggL_agg, List.length_cons, toL_den b h1]
  | .var _, _, h | .hole, _, h | .bool _, _, h | .int _, _, h | .str _, _, h | .fld _ _, _, h | .bin _ _ _ _, _, h | .cmp _ _ _, _, h
  | .wrap _ _, _, h | .beq _ _, _, h | .not _, _, h | .and _ _, _, h | .or _ _, _, h | .ite _ _ _, _, h | .scmp _ _ _, _, h | .scat _ _, _, h
  | .slen _, _, h | .sidx _ _, _, h | .ssub _ _ _, _, h | .len _, _, h | .idx _ _, _, h | .lit _, _, h | .app _ _, _, h | .tk _ _ _, _, h
  | .upd _ _ _ _, _, h | .rep _ _, _, h | .ruc _ _, _, h | .ruw _ _, _, h | .mget _ _ _, _, h | .mput _ _ _, _, h | .fits _ _ _, _, h | .sfits _ _, _, h
  | .s2b _, _, h | .b2s _, _, h | .sub _ _ _, _, h => by simp [X.toL] at h
theorem mkLen_den (a : X) : (a.mkLen).den ρ = (X.len a).den ρ := by
  unfold X.mkLen
  split
  · split
    · rename_i l _ es h
      simp only [X.den, D.toSl, List.length_map, toL_den l h]
    · rfl
  · rfl
theorem mkAnd'_den (a b : X) (ha : ∃ x, a.den ρ = .bool x) : (X.mkAnd' a b).den ρ = (X.and a b).den ρ := by
  obtain ⟨x, ha⟩ := ha
  unfold X.mkAnd'
  split <;> simp [X.den, D.toBool, ha]
end
end Go.RX
namespace Go.RX

/-- The frame and the world are what the symbolic state says. -/
structure Mod (P : Program) (B : Base) (ρ : List D) (S : SSt) (a : Act) (w : World) (m : Pl) : Prop where
  sim : Sim P B ρ S.heap m w
  env : ∀ i, RepS P w (avOf P m ρ B.fr S.heap) m ρ (S.env.getD i .any) (a.tmps.getD i Go.undef)
  len : S.env.length = a.tmps.size
  defers : a.defers = []
  facts : ∀ x b, (x, b) ∈ S.facts → (x.den ρ).toBool = b

/-- What an operation makes of the world. -/
structure Step (P : Program) (B : Base) (ρ : List D) (H : List SObj) (m : Pl) (w : World) (sets : List (Nat × SObj)) (val : SV) (m' : Pl) (w' : World) (v : Value) : Prop where
  sim : Sim P B ρ (hsets H sets) m' w'
  le : Pl.le m m'
  keep : KeepsAv (avOf P m ρ B.fr H) w w' (avOf P m' ρ B.fr (hsets H sets))
  val : RepS P w' (avOf P m' ρ B.fr (hsets H sets)) m' ρ val v
  fresh : ∀ o, m o = none → (∀ q ∈ sets, q.1 ≠ o) → m' o = none

def Runs (P : Program) (a : Act) (o : Oper) (w : World) (v : Value) (w' : World) : Prop :=
  (execOp a.eval o).run P w = .ok (.value v) w' ∨ ((execOp a.eval o).run P w = .ok .skip w' ∧ v = Go.undef)

section
variable {P : Program} {B : Base} {ρ : List D} {S : SSt} {a : Act} {w : World} {m : Pl}

theorem Step.pure {H : List SObj} (h : Sim P B ρ H m w) {val : SV} {v : Value} (hv : RepS P w (avOf P m ρ B.fr H) m ρ val v) : Step P B ρ H m w [] val m w v :=
  ⟨h, Pl.le_refl m, KeepsAv.refl _ _, hv, fun _ h _ => h⟩

theorem opv_rep (hM : Mod P B ρ S a w m) (o : Operand) (t : TypeId) : RepS P w (avOf P m ρ B.fr S.heap) m ρ (opv P S o t) (a.eval o) := by
  unfold opv
  split
  · exact known_rep hM.facts (hM.env _)
  · split
    · split
      · rename_i cs h
        simp only [beq_iff_eq] at h
        simp only [RepS]
        exact ⟨cs, rfl, ofConsts_rep cs.toList (cellTys P t) (by simpa using h)⟩
      · simp [RepS]
    · exact ofConst_rep _ t
  · simp [RepS, RepSL, Act.eval]
  · simp [RepS]

theorem opInt_rep (hM : Mod P B ρ S a w m) {o : Operand} {x : X} (h : opInt P S o = some x) : ∃ k n, a.eval o = .int k n ∧ x.den ρ = .int n := by
  unfold opInt at h
  split at h
  · cases h; exact ⟨_, _, rfl, rfl⟩
  · rename_i i
    split at h
    · rename_i b t hb
      split at h
      · rename_i hk
        cases h
        have := hM.env i
        rw [hb] at this
        simp only [RepS] at this
        obtain ⟨k, hk⟩ := Option.isSome_iff_exists.1 hk
        obtain ⟨h1, h2, _⟩ := this.ofInt (intKind_eq.1 hk)
        exact ⟨k, _, h1, h2⟩
      · simp at h
    · simp at h
  · simp at h

theorem expand_rep {av : Av} : ∀ (ts : List TypeId) (i : Nat) {x : X} {vs : List Value} {ds : List D}, (x.den ρ).aggL.drop i = ds → RepL P w av ts vs ds → RepSs P w av m ρ (expand x ts i) vs := by
  intro ts
  induction ts with
  | nil => intro i x vs ds _ h; cases h; trivial
  | cons t ts ih =>
    intro i x vs ds hd h
    cases h with
    | cons r l =>
      rename_i v vs d ds
      refine ⟨?_, ih (i + 1) ?_ l⟩
      · simp only [RepS, mkFld_den, X.den]
        have : (x.den ρ).aggL.getD i default = d := by
          rw [List.getD_eq_getElem?_getD, ← List.head?_drop, hd]
          rfl
        rw [this]; exact r
      · rw [← List.drop_drop, hd]; rfl

theorem cells_of_one {v : Value} (h : ∀ cs, v ≠ .agg cs) : v.cells = #[v] := by
  unfold Value.cells; split
  · exact (h _ rfl).elim
  · rfl

theorem oneCell_rep {av : Av} {s : SV} (ho : oneCell s = true) {v : Value} (hr : RepS P w av m ρ s v) : v.oneCell' = true ∧ ∀ cs, v ≠ .agg cs := by
  cases s <;> simp [oneCell] at ho
  all_goals try simp only [RepS] at hr
  case own => obtain ⟨p, _, _, a, n, c, h⟩ := hr; subst h; exact ⟨rfl, by simp⟩
  case ptr => obtain ⟨p, b, _, _, h⟩ := hr; subst h; exact ⟨rfl, by simp⟩
  case nilp => subst hr; exact ⟨rfl, by simp⟩
  case nils => subst hr; exact ⟨rfl, by simp⟩
  case full => obtain ⟨_, b, n, h⟩ := hr; subst h; exact ⟨rfl, by simp⟩
  case iptr => obtain ⟨b, o, h, _⟩ := hr; subst h; exact ⟨rfl, by simp⟩
  case rptr => obtain ⟨_, _, _, _, _, _, _, _, h⟩ := hr; subst h; exact ⟨rfl, by simp⟩
  case clo => obtain ⟨_, _, h, _⟩ := hr; subst h; exact ⟨rfl, by simp⟩
  case nilf => subst hr; exact ⟨rfl, by simp⟩
  case nili => subst hr; exact ⟨rfl, by simp⟩
  case ifv => obtain ⟨_, _, h⟩ := hr; subst h; exact ⟨rfl, by simp⟩
  case lits => obtain ⟨_, _, _, h, _⟩ := hr; subst h; exact ⟨rfl, by simp⟩
  case lptr => obtain ⟨_, _, _, h, _⟩ := hr; subst h; exact ⟨rfl, by simp⟩
  case mp => obtain ⟨_, _, _, _, h⟩ := hr; subst h; exact ⟨rfl, by simp⟩

/-- a value's cells are what its symbol's cells say -/
theorem cellsOf_rep {av : Av} {s : SV} {cs : List SV} (h : cellsOf P s = some cs) {v : Value} (hr : RepS P w av m ρ s v) : RepSs P w av m ρ cs v.cells.toList := by
  by_cases h1 : ∃ l, s = .agg l
  · obtain ⟨l, rfl⟩ := h1
    simp only [cellsOf, Option.some.injEq] at h
    subst h
    simp only [RepS] at hr
    obtain ⟨vs, rfl, h2⟩ := hr
    exact repSL_toL _ h2
  by_cases h2 : ∃ x t, s = .x x t
  · obtain ⟨x, t, rfl⟩ := h2
    simp only [cellsOf] at h
    have hr' := hr
    simp only [RepS] at hr
    split at h
    · rename_i hg
      cases h
      obtain ⟨h1, vs, rfl, h2⟩ := hr.ofAg hg
      exact expand_rep _ 0 (ds := (x.den ρ).aggL) rfl (by simpa [Value.cells] using h2)
    · rename_i hg
      cases h
      rw [(hr.oneCell (by simpa using hg)).2.1]
      exact ⟨hr', trivial⟩
  have h3 : cellsOf P s = if oneCell s then some [s] else none := by
    cases s <;> first | rfl | (exact (h1 ⟨_, rfl⟩).elim) | (exact (h2 ⟨_, _, rfl⟩).elim)
  rw [h3] at h
  split at h
  · rename_i ho
    cases h
    rw [cells_of_one (oneCell_rep ho hr).2]
    exact ⟨hr, trivial⟩
  · simp at h

theorem storable_one {av : Av} {s : SV} (h : storable P s = true) {v : Value} (hr : RepS P w av m ρ s v) : v.oneCell' = true := by
  by_cases h2 : ∃ x t, s = .x x t
  · obtain ⟨x, t, rfl⟩ := h2
    simp only [storable] at h
    simp only [RepS] at hr
    exact (hr.oneCell (by simpa using h)).1
  · have h3 : storable P s = oneCell s := by
      cases s <;> first | rfl | (exact (h2 ⟨_, _, rfl⟩).elim)
    rw [h3] at h
    exact (oneCell_rep h hr).1
theorem storables_one {av : Av} : ∀ {ss : List SV} {vs : List Value}, ss.all (storable P) = true → RepSs P w av m ρ ss vs → ∀ v ∈ vs, v.oneCell' = true
  | [], [], _, _, v, h => by simp at h
  | s :: ss, u :: us, ha, hr, v, h => by
    simp only [List.all_cons, Bool.and_eq_true] at ha
    rcases List.mem_cons.1 h with rfl | h
    · exact storable_one ha.1 hr.1
    · exact storables_one ha.2 hr.2 v h
  | [], _ :: _, _, hr, _, _ => hr.elim
  | _ :: _, [], _, hr, _, _ => hr.elim

theorem zeroCells_rep {av : Av} {t : TypeId} {cs : List SV} (h : zeroCells P t = some cs) : ∃ v, (zeroValue t).run P w = .ok v w ∧ RepSs P w av m ρ cs v.cells.toList := by
  unfold zeroCells at h
  split at h
  · rename_i i hi
    split at h
    · rename_i vs hz
      split at h
      · rename_i hs
        cases h
        simp only [beq_iff_eq] at hs
        refine ⟨.agg vs, by simp [zeroValue, typeInfo, hi, hz], repSL_ofL.1 (ofConsts_rep vs.toList (cellTys P t) (by simpa using hs))⟩
      · simp at h
    · rename_i v hn hz
      split at h
      · simp at h
      · cases h
        rename_i hv
        refine ⟨v, by simp [zeroValue, typeInfo, hi, hz], ?_⟩
        rw [cells_of_one (fun cs e => hn cs e)]
        exact ⟨ofConst_rep v t, trivial⟩
    · simp at h
  · simp at h
end
end Go.RX
namespace Go.RX

/-- one place more -/
def upd (m : Pl) (n : Nat) (p : Place) : Pl := fun o => if o = n then some p else m o
theorem upd_same (m : Pl) (n : Nat) (p : Place) : upd m n p n = some p := by simp [upd]
theorem upd_other {m : Pl} {n o : Nat} (p : Place) (h : o ≠ n) : upd m n p o = m o := by simp [upd, h]
theorem upd_le {m : Pl} {n : Nat} (hn : m n = none) (p : Place) : Pl.le m (upd m n p) := by
  intro o q h
  by_cases e : o = n
  · subst e; rw [hn] at h; cases h
  · rw [upd_other p e]; exact h

section
variable {P : Program} {B : Base} {ρ : List D} {H H' : List SObj} {w w' : World} {m : Pl}

/-! A new object. -/
theorem keepsAv_lay {n : Nat} {p : Place} {ob : SObj} (hw : ∀ b, b < w.heap.size → w'.heap[b]? = w.heap[b]?) (hp : ∀ b, p.block = some b → w.heap.size ≤ b) :
    KeepsAv (avOf P m ρ B.fr H) w w' (avOf P (upd m n p) ρ B.fr (hset H n ob)) := by
  intro b off v hv ha
  have hb : b < w.heap.size := World.block_lt_of_cell? w ⟨b, off, none⟩ hv
  refine ⟨by rw [cell?_of_heap_eq (hw b hb)]; exact hv, ?_⟩
  rintro (hF | ⟨o, q, hq, hqb, hr⟩)
  · exact ha (.inl hF)
  by_cases e : o = n
  · subst e
    rw [upd_same] at hq; cases hq
    have := hp b hqb
    omega
  · rw [upd_other p e] at hq
    rw [hget_hset, if_neg e] at hr
    exact ha (.inr ⟨o, q, hq, hqb, hr⟩)

theorem Sim.lay (h : Sim P B ρ H m w) {n : Nat} {p : Place} {ob : SObj} (hn : m n = none) (hx : Ext (fun _ => False) w w') (hp : ∀ b, p.block = some b → w.heap.size ≤ b)
    (hok : ObjOk P w' (avOf P (upd m n p) ρ B.fr (hset H n ob)) (upd m n p) ρ (some p) ob) : Sim P B ρ (hset H n ob) (upd m n p) w' := by
  refine h.update (fun o => o = n) (fun o ho => by rw [hget_hset, if_neg ho]) (upd_le hn p) (fun o ho => upd_other p ho) (keepsAv_lay (B := B) (fun b hb => hx.block b hb (fun f => f)) hp) ?_ ?_ ?_ ?_
  · exact ⟨hx.os, hx.tape, hx.output, hx.size, fun b hb _ => hx.block b hb (fun f => f)⟩
  · rintro o rfl
    rw [upd_same, hget_hset, if_pos rfl]; exact hok
  · rintro o q b rfl _ hq hb
    rw [upd_same] at hq; cases hq
    exact .inl (hp b hb)
  · rintro o o' q q' b rfl rfl _ _ _ _ _ _; rfl

theorem Step.lay (h : Sim P B ρ H m w) {n : Nat} {p : Place} {ob : SObj} (hn : m n = none) (hx : Ext (fun _ => False) w w') (hp : ∀ b, p.block = some b → w.heap.size ≤ b)
    (hok : ObjOk P w' (avOf P (upd m n p) ρ B.fr (hset H n ob)) (upd m n p) ρ (some p) ob) {val : SV} {v : Value}
    (hv : RepS P w' (avOf P (upd m n p) ρ B.fr (hset H n ob)) (upd m n p) ρ val v) : Step P B ρ H m w [(n, ob)] val (upd m n p) w' v :=
  ⟨h.lay hn hx hp hok, upd_le hn p, keepsAv_lay (B := B) (fun b hb => hx.block b hb (fun f => f)) hp, hv, fun o ho hq => by
    rw [upd_other p (fun e => hq (n, ob) (List.mem_cons_self ..) e.symm)]; exact ho⟩

theorem Ext.alloc (w : World) (o : Obj) : Ext (fun _ => False) w (w.alloc o) :=
  ⟨rfl, rfl, rfl, by simp, fun b hb _ => by
    show (w.heap.push o)[b]? = w.heap[b]?
    rw [Array.getElem?_push, if_neg (Nat.ne_of_lt hb)]⟩
theorem Ext.drew (w : World) : Ext (fun _ => False) w w.drew := ⟨rfl, rfl, rfl, Nat.le_refl _, fun _ _ _ => rfl⟩

/-! Rows that are frozen. -/
def Froz (H H' : List SObj) : Prop := ∀ o, hget H' o = hget H o ∨ ∃ e c wr, hget H o = .row e c wr ∧ hget H' o = .row e c false
theorem Froz.refl (H : List SObj) : Froz H H := fun _ => .inl rfl
theorem froz_frost (H : List SObj) : ∀ (l : List Nat) (H' : List SObj), Froz H H' → Froz H (hsets H' (frost H l))
  | [], _, h => h
  | r :: l, H', h => by
    unfold frost
    split
    · rename_i e c wr hr
      rw [hsets]
      refine froz_frost H l _ (fun o => ?_)
      rw [hget_hset]
      split
      · rename_i ho; subst ho
        exact .inr ⟨e, c, wr, hr, rfl⟩
      · exact h o
    · exact froz_frost H l H' h
/-- what was frozen stays so -/
theorem frost_keeps {r : Nat} {e : TypeId} {c : X} {wr : Bool} (hr : hget H r = .row e c wr) : ∀ (l : List Nat) (H' : List SObj), hget H' r = .row e c false → hget (hsets H' (frost H l)) r = .row e c false
  | [], _, h => h
  | s :: l, H', h => by
    unfold frost
    split
    · rename_i e' c' wr' hs
      rw [hsets]
      refine frost_keeps hr l _ ?_
      rw [hget_hset]
      split
      · rename_i ho; subst ho; rw [hr] at hs; cases hs; rfl
      · exact h
    · exact frost_keeps hr l H' h
theorem frost_in {r : Nat} {e : TypeId} {c : X} {wr : Bool} (hr : hget H r = .row e c wr) : ∀ (l : List Nat) (H' : List SObj), r ∈ l → hget (hsets H' (frost H l)) r = .row e c false
  | s :: l, H', h => by
    by_cases hs : r = s
    · subst hs
      unfold frost
      rw [hr]
      exact frost_keeps hr l _ (by rw [hget_hset, if_pos rfl])
    · unfold frost
      have hl := frost_in hr l
      split
      · exact hl _ ((List.mem_cons.1 h).resolve_left hs)
      · exact hl _ ((List.mem_cons.1 h).resolve_left hs)
theorem frost_ids : ∀ (l : List Nat), ∀ q ∈ frost H l, q.1 ∈ l ∧ hget H q.1 ≠ .dead
  | [], q, h => by simp [frost] at h
  | r :: l, q, h => by
    unfold frost at h
    split at h
    · rename_i e c wr hr
      rcases List.mem_cons.1 h with rfl | h
      · exact ⟨List.mem_cons_self .., by simp [hr]⟩
      · exact ⟨List.mem_cons_of_mem _ (frost_ids l q h).1, (frost_ids l q h).2⟩
    · exact ⟨List.mem_cons_of_mem _ (frost_ids l q h).1, (frost_ids l q h).2⟩

theorem Froz.live (h : Froz H H') (o : Nat) : hget H' o ≠ .dead ↔ hget H o ≠ .dead := by
  rcases h o with h | ⟨e, c, wr, h1, h2⟩
  · rw [h]
  · simp [h1, h2]
theorem Froz.writable (h : Froz H H') (o : Nat) : writable (hget H' o) ↔ writable (hget H o) := by
  rcases h o with h | ⟨e, c, wr, h1, h2⟩
  · rw [h]
  · simp [h1, h2, RX.writable]
theorem froz_av (h : Froz H H') {b off : Nat} (ha : avOf P m ρ B.fr H' b off) : avOf P m ρ B.fr H b off := by
  rcases ha with hF | ⟨o, p, h1, h2, h3⟩
  · exact .inl hF
  rcases h o with h | ⟨e, c, wr, h4, h5⟩
  · exact .inr ⟨o, p, h1, h2, h ▸ h3⟩
  · refine .inr ⟨o, p, h1, h2, ?_⟩
    rw [h5] at h3
    rw [h4]
    cases wr
    · exact h3
    · simp [region]
theorem keepsAv_froz (h : Froz H H') : KeepsAv (avOf P m ρ B.fr H) w w (avOf P m ρ B.fr H') := fun _ _ _ hv ha => ⟨hv, fun h' => ha (froz_av h h')⟩
theorem Sim.froz (h : Sim P B ρ H m w) (hf : Froz H H') : Sim P B ρ H' m w := by
  refine ⟨fun o => ?_, fun o o' p p' b hl hl' => h.inj o o' p p' b ((hf.live o).1 hl) ((hf.live o').1 hl'), fun o p b hw => h.base o p b ((hf.writable o).1 hw), h.ext, h.keep.trans (keepsAv_froz hf), fun o p b off hl => h.apart o p b off ((hf.writable o).1 hl), h.old⟩
  have := ObjOk.keeps (keepsAv_froz hf) (Pl.le_refl m) (fun _ _ _ _ => rfl) (h.ok o)
  rcases hf o with he | ⟨e, c, wr, h1, h2⟩
  · rw [he]; exact this
  · rw [h1] at this; rw [h2]; exact this

/-- A frozen row's memory reads as its content. -/
theorem row_repE (h : Sim P B ρ H m w) {r : Nat} {e : TypeId} {c : X} {wr : Bool} (hr : hget H r = .row e c wr) {av' : Av} {p : Place} (hp : m r = some p)
    (hav : ∀ b off, p.block = some b → off < (c.den ρ).toSl.length * (cellTys P e).length → ¬ av' b off) (hk : KeepsAv (avOf P m ρ B.fr H) w w av') :
    c.den ρ = .sl (c.den ρ).toSl ∧ SlOk P e (c.den ρ).toSl ∧ (∀ x ∈ (c.den ρ).toSl, x.length = (cellTys P e).length) ∧
      ((p = ⟨none, .slice none 0 0⟩ ∧ (c.den ρ).toSl = []) ∨ ∃ b cap cur, p = ⟨some b, .slice (some ⟨b, 0, none⟩) (c.den ρ).toSl.length cap⟩ ∧ w.heap[b]? = some (.cells cur e (0, 0)) ∧
        (c.den ρ).toSl.length ≤ cap ∧ cap ≤ maxLen ∧ cur.size = cap * (cellTys P e).length ∧
        RepL P w av' (rowTys P e (c.den ρ).toSl.length) (cur.toList.take ((c.den ρ).toSl.length * (cellTys P e).length)) (c.den ρ).toSl.flatten ∧ RepE P w av' e b 0 (c.den ρ).toSl) := by
  have hok := h.ok r
  rw [hr] at hok
  obtain ⟨es, xs, v, h1, h2, h3, h4, h5, h6⟩ := hok
  rw [hp] at h1; cases h1
  have hes : (c.den ρ).toSl = es := by rw [h2]; rfl
  rw [hes]
  refine ⟨h2, h3, h5, ?_⟩
  rcases h4.2 with ⟨rfl, h0⟩ | ⟨g, cap, cur, rfl, _, hg, hn, hc, hs, ht⟩
  · exact .inl ⟨rfl, List.eq_nil_of_length_eq_zero h0⟩
  · refine .inr ⟨g, cap, cur, rfl, hg, hn, hc, hs, ?_, ?_⟩
    · rw [ht]; exact h6.keeps hk
    · have h6' := h6.keeps hk
      -- from the values to the memory
      have cellAt : ∀ j x, xs[j]? = some x → w.cell? ⟨g, j, none⟩ = some x := by
        intro j x hj
        have hcur : cur[j]? = some x := by
          rw [← ht, List.getElem?_take] at hj
          split at hj
          · simpa using hj
          · cases hj
        simp [World.cell?, hg, hcur]
      have key : ∀ (es : List (List D)) (k : Nat) (xs' : List Value), (∀ x ∈ es, x.length = (cellTys P e).length) → (∀ j x, xs'[j]? = some x → w.cell? ⟨g, k + j, none⟩ = some x) →
          (∀ off, k ≤ off → off < k + es.length * (cellTys P e).length → ¬ av' g off) → RepL P w av' (rowTys P e es.length) xs' es.flatten → RepE P w av' e g k es := by
        intro es
        induction es with
        | nil => intro k xs' _ _ _ _; exact .nil
        | cons x es ih =>
          intro k xs' hl hc' ha hr'
          have hx := hl x (List.mem_cons_self ..)
          simp only [rowTys, List.length_cons, List.replicate_succ, List.flatten_cons] at hr'
          have hd := hr'.take (cellTys P e).length
          have he := hr'.drop (cellTys P e).length
          rw [List.take_left' rfl, List.take_left' hx] at hd
          rw [List.drop_left' rfl, List.drop_left' hx] at he
          refine .cons ?_ (ih _ (xs'.drop (cellTys P e).length) (fun y hy => hl y (List.mem_cons_of_mem _ hy)) (fun j y hj => ?_) (fun off h1 h2 => ha off (by omega) ?_) he)
          · have mem : ∀ (ts : List TypeId) (ys : List Value) (ds : List D) (k : Nat), RepL P w av' ts ys ds → (∀ j y, ys[j]? = some y → w.cell? ⟨g, k + j, none⟩ = some y) → (∀ off, k ≤ off → off < k + ts.length → ¬ av' g off) → RepM P w av' ts g k ds := by
              intro ts
              induction ts with
              | nil => intro ys ds k h _ _; cases h; exact .nil
              | cons t ts ih =>
                intro ys ds k h hc ha
                cases h with
                | cons r l =>
                  refine .cons (by simpa using hc 0 _ rfl) (ha k (Nat.le_refl _) (by simp)) r (ih _ _ (k + 1) l (fun j y hj => ?_) (fun off h1 h2 => ha off (by omega) (by simp; omega)))
                  have := hc (j + 1) y (by simpa using hj)
                  rwa [show k + (j + 1) = k + 1 + j by omega] at this
            refine mem _ _ _ k hd (fun j y hj => hc' j y ?_) (fun off h1 h2 => ha off h1 ?_)
            · rw [List.getElem?_take] at hj
              split at hj
              · exact hj
              · cases hj
            · simp only [List.length_cons, Nat.add_mul]; omega
          · rw [List.getElem?_drop] at hj
            have := hc' _ y hj
            rwa [show k + ((cellTys P e).length + j) = k + x.length + j by omega] at this
          · simp only [List.length_cons, Nat.add_mul]; omega
      refine key es 0 xs h5 (fun j x hj => by simpa using cellAt j x hj) (fun off _ h2 => hav g off rfl (by rw [hes]; simpa using h2)) h6'

/-- A row, frozen, is data. -/
theorem row_rep (h : Sim P B ρ H m w) {r : Nat} {e t : TypeId} {c : X} {wr : Bool} (hr : hget H r = .row e c wr) (ht : P.underlying t = some (.slice e)) {av' : Av} {p : Place} (hp : m r = some p)
    (hav : ∀ b off, p.block = some b → off < (c.den ρ).toSl.length * (cellTys P e).length → ¬ av' b off) (hk : KeepsAv (avOf P m ρ B.fr H) w w av') : Rep P w av' t p.val (c.den ρ) := by
  obtain ⟨h1, h2, _, h3⟩ := row_repE h hr hp hav hk
  rcases h3 with ⟨rfl, h0⟩ | ⟨b, cap, cur, rfl, _, hn, _, _, _, hE⟩
  · rw [h1, h0]; exact .nil ht
  · have := Rep.sl (P := P) (w := w) (av := av') ht h2 hn hE
    rw [← h1] at this; exact this
/-- the frozen heap's own region leaves a frozen row's cells alone -/
theorem froz_free (h : Sim P B ρ H m w) (hf : Froz H H') {r : Nat} {e : TypeId} {c : X} (hr' : hget H' r = .row e c false) {p : Place} (hp : m r = some p) :
    ∀ b off, p.block = some b → off < (c.den ρ).toSl.length * (cellTys P e).length → ¬ avOf P m ρ B.fr H' b off := by
  rintro b off hb hlt (hF | ⟨o, q, hq, hqb, hreg⟩)
  · exact h.apart r p b off ((hf.writable r).1 (by rw [hr']; trivial)) hp hb hF
  have hl : hget H' o ≠ .dead := fun e => by rw [e] at hreg; exact hreg
  have hl' : hget H' r ≠ .dead := by simp [hr']
  have := h.inj o r q p b ((hf.live o).1 hl) ((hf.live r).1 hl') hq hp hqb hb
  subst this
  rw [hr'] at hreg
  simp only [region] at hreg
  omega
end
end Go.RX
namespace Go.RX

theorem hsets_append : ∀ (l l' : List (Nat × SObj)) (H : List SObj), hsets H (l ++ l') = hsets (hsets H l) l'
  | [], _, _ => rfl
  | (n, ob) :: l, l', H => by simp only [List.cons_append, hsets]; exact hsets_append l l' _

section
variable {P : Program} {B : Base} {ρ : List D} {H H' : List SObj} {w w' : World} {m : Pl}

theorem sameTy_symm {t u : TypeId} (h : sameTy P t u = true) : sameTy P u t = true := by
  unfold sameTy at h ⊢
  simp only [Bool.or_eq_true, Bool.and_eq_true, beq_iff_eq] at h ⊢
  rcases h with (h | ⟨⟨h1, h2⟩, h3⟩) | h
  · exact .inl (.inl h.symm)
  · exact .inl (.inr ⟨⟨h2, h1⟩, h3.symm⟩)
  · refine .inr ?_
    split at h <;> rename_i ht hu <;> simp [ht, hu] at h ⊢ <;> try exact h.symm
theorem notAg_slice {t e : TypeId} (h : P.underlying t = some (.slice e)) : isAg P t = false := by simp [isAg, h]

/-- the frozen rows of a list are frozen in the heap H' -/
def FrozIn (H H' : List SObj) (fr : List Nat) : Prop := Froz H H' ∧ ∀ r ∈ fr, ∀ e c wr, hget H r = .row e c wr → hget H' r = .row e c false
theorem FrozIn.frost (H : List SObj) (fr : List Nat) : FrozIn H (hsets H (frost H fr)) fr :=
  ⟨froz_frost H fr H (Froz.refl H), fun _r hr _e _c _wr h => frost_in h fr H hr⟩
theorem FrozIn.left {fr fr' : List Nat} (h : FrozIn H H' (fr ++ fr')) : FrozIn H H' fr := ⟨h.1, fun r hr => h.2 r (List.mem_append_left _ hr)⟩
theorem FrozIn.right {fr fr' : List Nat} (h : FrozIn H H' (fr ++ fr')) : FrozIn H H' fr' := ⟨h.1, fun r hr => h.2 r (List.mem_append_right _ hr)⟩

theorem dataCell_rep (h : Sim P B ρ H m w) {s : SV} {t : TypeId} {a : X} {fr : List Nat} (hd : dataCell P H s t = some (a, fr)) {v : Value} (hr : RepS P w (avOf P m ρ B.fr H) m ρ s v)
    (hf : FrozIn H H' fr) : Rep P w (avOf P m ρ B.fr H') t v (a.den ρ) ∧ isAg P t = false := by
  have hk : KeepsAv (avOf P m ρ B.fr H) w w (avOf P m ρ B.fr H') := keepsAv_froz hf.1
  unfold dataCell at hd
  split at hd
  · split at hd
    · rename_i hs
      cases hd
      simp only [Bool.and_eq_true, Bool.not_eq_true'] at hs
      simp only [RepS] at hr
      exact ⟨sameTy_rep (sameTy_symm hs.1) (hr.keeps hk), hs.2⟩
    · cases hd
  · split at hd
    · rename_i a u hs
      cases hd
      simp only [RepS] at hr
      obtain ⟨hr, b, n, rfl⟩ := hr
      refine ⟨sameTy_rep (sameTy_symm hs) (hr.keeps hk), ?_⟩
      have := sameTy_rep (sameTy_symm hs) hr
      cases hag : isAg P t
      · rfl
      · obtain ⟨_, vs, hv, _⟩ := this.ofAg hag
        cases hv
    · cases hd
  · split at hd
    · rename_i hs
      cases hd
      simp only [RepS] at hr
      subst hr
      obtain ⟨e, he⟩ := Option.isSome_iff_exists.1 hs
      exact ⟨by simp only [X.den, D.aggL, List.map_nil]; exact .nil (elemTy_eq.1 he), notAg_slice (elemTy_eq.1 he)⟩
    · cases hd
  · rename_i r
    split at hd
    · rename_i e c wr hrow
      split at hd
      · rename_i he
        cases hd
        simp only [beq_iff_eq] at he
        simp only [RepS] at hr
        obtain ⟨p, hp, rfl, _⟩ := hr
        have hrow' := hf.2 r (List.mem_cons_self ..) _ _ _ hrow
        exact ⟨row_rep h hrow (elemTy_eq.1 he) hp (froz_free h hf.1 hrow' hp) hk, notAg_slice (elemTy_eq.1 he)⟩
      · cases hd
    · cases hd
  · cases hd

theorem dataCells_rep (h : Sim P B ρ H m w) : ∀ {ss : List SV} {ts : List TypeId} {a : X} {fr : List Nat}, dataCells P H ss ts = some (a, fr) → ∀ {vs : List Value}, RepSs P w (avOf P m ρ B.fr H) m ρ ss vs →
    FrozIn H H' fr → ∃ ds, a.den ρ = .agg ds ∧ RepL P w (avOf P m ρ B.fr H') ts vs ds
  | [], [], a, fr, hd, [], _, _ => by simp [dataCells] at hd; obtain ⟨rfl, rfl⟩ := hd; exact ⟨[], rfl, .nil⟩
  | s :: ss, t :: ts, a, fr, hd, v :: vs, hr, hf => by
    simp only [dataCells] at hd
    split at hd
    · rename_i a1 f1 b1 g1 h1 h2
      cases hd
      obtain ⟨ds, e, l⟩ := dataCells_rep h h2 hr.2 hf.right
      have := (dataCell_rep h h1 hr.1 hf.left).1
      exact ⟨_, by simp only [X.den, e]; rfl, .cons this l⟩
    · cases hd
  | [], _ :: _, _, _, hd, _, _, _ => by simp [dataCells] at hd
  | _ :: _, [], _, _, hd, _, _, _ => by simp [dataCells] at hd
  | [], [], _, _, _, _ :: _, hr, _ => hr.elim
  | _ :: _, _ :: _, _, _, _, [], hr, _ => hr.elim

theorem dataOf_rep (h : Sim P B ρ H m w) {s : SV} {t : TypeId} {a : X} {fr : List Nat} (hd : dataOf P H s t = some (a, fr)) {v : Value} (hr : RepS P w (avOf P m ρ B.fr H) m ρ s v)
    (hf : FrozIn H H' fr) : Rep P w (avOf P m ρ B.fr H') t v (a.den ρ) := by
  have hk : KeepsAv (avOf P m ρ B.fr H) w w (avOf P m ρ B.fr H') := keepsAv_froz hf.1
  unfold dataOf at hd
  split at hd
  · rename_i hag
    split at hd
    · split at hd
      · rename_i hs
        cases hd
        simp only [RepS] at hr
        exact sameTy_rep (sameTy_symm hs) (hr.keeps hk)
      · cases hd
    · rename_i cs
      simp only [RepS] at hr
      obtain ⟨vs, rfl, hl⟩ := hr
      obtain ⟨ds, e, l⟩ := dataCells_rep h hd (repSL_toL _ hl) hf
      rw [e]
      have := Rep.agg (P := P) (w := w) hag l
      simpa using this
    · cases hd
  · exact (dataCell_rep h hd hr hf).1

/-- First rows are frozen, then the rest is done. -/
theorem Step.froz {fr : List Nat} (_h : Sim P B ρ H m w) {sets : List (Nat × SObj)} {val : SV} {m' : Pl} {v : Value} (hs : Step P B ρ (hsets H (frost H fr)) m w sets val m' w' v) :
    Step P B ρ H m w (frost H fr ++ sets) val m' w' v := by
  have hk : KeepsAv (avOf P m ρ B.fr H) w w (avOf P m ρ B.fr (hsets H (frost H fr))) := keepsAv_froz (FrozIn.frost H fr).1
  exact ⟨by rw [hsets_append]; exact hs.sim, hs.le, by rw [hsets_append]; exact hk.trans hs.keep, by rw [hsets_append]; exact hs.val,
    fun o ho hq => hs.fresh o ho (fun q hq' => hq q (List.mem_append_right _ hq'))⟩
/-- a frozen row is what a value was -/
theorem FrozIn.sim (h : Sim P B ρ H m w) {fr : List Nat} (hf : FrozIn H H' fr) : Sim P B ρ H' m w := h.froz hf.1
theorem RepS.froz {s : SV} {v : Value} (hr : RepS P w (avOf P m ρ B.fr H) m ρ s v) (hf : Froz H H') : RepS P w (avOf P m ρ B.fr H') m ρ s v := hr.keeps (keepsAv_froz hf) (Pl.le_refl m)
end
end Go.RX
namespace Go.RX

theorem bytes_toList (l : List UInt8) : (ByteArray.mk l.toArray).toList = l := ByteArray.toList_mk l
theorem fdiv_pow_range {k : IntKind} {a : Int} (h1 : k.min ≤ a) (h2 : a ≤ k.max) (n : Nat) : k.min ≤ a.fdiv (2 ^ n) ∧ a.fdiv (2 ^ n) ≤ k.max := by
  have hp : (0 : Int) < 2 ^ n := Int.pow_pos (by decide)
  have hmin : k.min ≤ 0 := by cases k <;> simp [IntKind.min, IntKind.bits, IntKind.signed]
  have hmax : 0 ≤ k.max := by cases k <;> simp [IntKind.max, IntKind.bits, IntKind.signed]
  rw [Int.fdiv_eq_ediv_of_nonneg _ (Int.le_of_lt hp)]
  constructor
  · rw [Int.le_ediv_iff_mul_le hp]
    have : k.min * 2 ^ n ≤ k.min * 1 := Int.mul_le_mul_of_nonpos_left hmin (by omega)
    omega
  · by_cases h0 : 0 ≤ a
    · exact Int.le_trans (Int.ediv_le_self _ h0) h2
    · have : a / 2 ^ n < 0 := Int.ediv_neg_of_neg_of_pos (by omega) hp
      omega
theorem tmod_range {k : IntKind} {a b : Int} (h1 : k.min ≤ a) (h2 : a ≤ k.max) : k.min ≤ a.tmod b ∧ a.tmod b ≤ k.max := by
  have hmin : k.min ≤ 0 := by cases k <;> simp [IntKind.min, IntKind.bits, IntKind.signed]
  have hmax : 0 ≤ k.max := by cases k <;> simp [IntKind.max, IntKind.bits, IntKind.signed]
  have h3 : (a.tmod b).natAbs ≤ a.natAbs := by rw [Int.natAbs_tmod]; exact Nat.mod_le _ _
  by_cases h0 : 0 ≤ a
  · have := Int.tmod_nonneg b h0
    omega
  · have : a.tmod b ≤ 0 := by
      have := Int.tmod_nonneg b (a := -a) (by omega)
      rw [Int.neg_tmod] at this
      omega
    omega

section
variable {P : Program} {w : World}
theorem run_bin_cmp {op : BinOp} (h : isCmp op = true) (t : TypeId) (k : IntKind) (i j : Int) : (binOp op t (.int k i) (.int k j)).run P w = .ok (.bool (cmpI op i j)) w := by
  cases op <;> simp [isCmp] at h <;> simp [binOp, Op.intCmp, cmpI] <;> rfl
theorem run_bin_int {op : BinOp} (h : isCmp op = false) (t : TypeId) (k k' : IntKind) (i j : Int) (hk : op = .shl ∨ op = .shr ∨ k = k') (hs : op = .shl ∨ op = .shr → 0 ≤ j) (hd : op = .quo ∨ op = .rem → j ≠ 0) :
    (binOp op t (.int k i) (.int k' j)).run P w = .ok (.int k (binI op k i j)) w := by
  cases op <;> simp [isCmp] at h
  case shl => have := hs (.inl rfl); simp [binOp, Op.shift, binI, show ¬ j < 0 by omega]
  case shr => have := hs (.inr rfl); simp [binOp, Op.shift, binI, show ¬ j < 0 by omega]
  case quo => have h0 := hd (.inl rfl); simp at hk; subst hk; simp [binOp, Op.intDiv, binI, h0]
  case rem => have h0 := hd (.inr rfl); simp at hk; subst hk; simp [binOp, Op.intDiv, binI, h0]
  all_goals (simp at hk; subst hk; first | (simp [binOp, Op.intArith, binI]; done) | (simp [binOp, Op.intBits, binI]; done))
theorem binI_range {op : BinOp} (h : isCmp op = false) {k : IntKind} {i j : Int} (h1 : k.min ≤ i) (h2 : i ≤ k.max) : k.min ≤ binI op k i j ∧ binI op k i j ≤ k.max := by
  cases op <;> simp [isCmp] at h <;> simp only [binI] <;> first
    | exact wrap_within _ _
    | exact tmod_range h1 h2
    | exact fdiv_pow_range h1 h2 _
theorem run_bin_str {op : BinOp} (h : isCmp op = true) (t : TypeId) (x y : List UInt8) : (binOp op t (.string ⟨x.toArray⟩) (.string ⟨y.toArray⟩)).run P w = .ok (.bool (cmpS op x y)) w := by
  cases op <;> simp [isCmp] at h <;> simp [binOp, Op.stringOp, cmpS]
theorem run_bin_cat (t : TypeId) (x y : List UInt8) (h : x.length + y.length ≤ 9223372036854775807) : (binOp .add t (.string ⟨x.toArray⟩) (.string ⟨y.toArray⟩)).run P w = .ok (.string ⟨(x ++ y).toArray⟩) w := by
  have e : (ByteArray.mk x.toArray) ++ (ByteArray.mk y.toArray) = ⟨(x ++ y).toArray⟩ := by
    apply ByteArray.ext
    simp
  have hm : IntKind.i64.max = 9223372036854775807 := by decide
  simp only [binOp, Op.stringOp, hm]
  rw [if_neg (by simp [ByteArray.size]; omega), e]
  rfl
end
end Go.RX
namespace Go.RX

/-- What an operation is to do. -/
def OpOk (P : Program) (B : Base) (ρ : List D) (S : SSt) (a : Act) (m : Pl) (w : World) (o : Oper) (r : Out) : Prop :=
  ∃ v w' m', Runs P a o w v w' ∧ Step P B ρ S.heap m w r.sets r.val m' w' v

section
variable {P : Program} {B : Base} {ρ : List D} {S : SSt} {a : Act} {w : World} {m : Pl} {n : Nat} {o : Oper} {r : Out}

theorem OpOk.pure (hM : Mod P B ρ S a w m) {v : Value} (hrun : (execOp a.eval o).run P w = .ok (.value v) w) (hs : r.sets = []) (hv : RepS P w (avOf P m ρ B.fr S.heap) m ρ r.val v) : OpOk P B ρ S a m w o r :=
  ⟨v, w, m, .inl hrun, hs ▸ Step.pure hM.sim hv⟩

theorem isCmp_eq {op : BinOp} (h : (op == .eql || op == .neq) = true) : op = .eql ∨ op = .neq := by cases op <;> simp at h ⊢

theorem negIf_den {op : BinOp} {x : X} {b : Bool} (hop : op = .eql ∨ op = .neq) (h : x.den ρ = .bool b) : (negIf op x).den ρ = .bool (if op = .neq then !b else b) := by
  rcases hop with rfl | rfl
  · simp [negIf, h]
  · simp only [negIf, beq_self_eq_true, if_true, mkNot_den, X.den, h, D.toBool]

theorem symBin_int (_hM : Mod P B ρ S a w m) {op : BinOp} {xt : TypeId} {x y : Operand} {ax ay : X} {t u rt : TypeId} {k k' : IntKind}
    (hx : RepS P w (avOf P m ρ B.fr S.heap) m ρ (.x ax t) (a.eval x)) (hy : RepS P w (avOf P m ρ B.fr S.heap) m ρ (.x ay u) (a.eval y))
    (hk : intKind P t = some k) (hk' : intKind P u = some k')
    (h : (if isCmp op then
        if k == k' && isBool P rt then some { val := SV.x (X.mkCmp op ax ay) rt } else none
      else if op == .shl || op == .shr then
        if intKind P rt == some k then some { chks := if k'.signed then [X.mkCmp .geq ay (.int 0)] else [], val := .x (X.mkBin op k ax ay) rt } else none
      else if op == .quo || op == .rem then
        if k == k' && intKind P rt == some k then some { chks := [X.mkCmp .neq ay (.int 0)], val := .x (X.mkBin op k ax ay) rt } else none
      else if k == k' && intKind P rt == some k then some { val := .x (X.mkBin op k ax ay) rt } else none) = some r) (hc : ∀ c ∈ r.chks, c.den ρ = .bool true) :
    ∃ v, (do eqGuard op xt x y (a.eval x) (a.eval y); binOp op xt (a.eval x) (a.eval y)).run P w = .ok v w ∧ RepS P w (avOf P m ρ B.fr S.heap) m ρ r.val v ∧ r.sets = [] := by
  simp only [RepS] at hx hy
  obtain ⟨e1, d1, l1, u1⟩ := hx.ofInt (intKind_eq.1 hk)
  obtain ⟨e2, d2, l2, u2⟩ := hy.ofInt (intKind_eq.1 hk')
  generalize (ax.den ρ).toInt = i at *
  generalize (ay.den ρ).toInt = j at *
  rw [e1, e2, eqGuard_at_int]
  simp only [pure_bind]
  split at h
  · rename_i hcmp
    split at h
    · rename_i hkk
      simp only [Bool.and_eq_true, beq_iff_eq] at hkk
      obtain ⟨rfl, hb⟩ := hkk
      cases h
      refine ⟨_, run_bin_cmp hcmp _ _ _ _, ?_, rfl⟩
      simp only [RepS, mkCmp_den, X.den, d1, d2, D.toInt]
      exact .bool (isBool_eq.1 hb)
    · cases h
  · rename_i hcmp
    simp only [Bool.not_eq_true] at hcmp
    have fin : ∀ {rt : TypeId}, intKind P rt = some k → RepS P w (avOf P m ρ B.fr S.heap) m ρ (.x (X.mkBin op k ax ay) rt) (.int k (binI op k i j)) := by
      intro rt hrt
      simp only [RepS, mkBin_den, X.den, d1, d2, D.toInt]
      have := binI_range hcmp l1 u1 (j := j)
      exact .int (intKind_eq.1 hrt) this.1 this.2
    split at h
    · rename_i hsh
      split at h
      · rename_i hrt
        simp only [beq_iff_eq] at hrt
        cases h
        have hj : 0 ≤ j := by
          by_cases hsg : k'.signed = true
          · have := hc _ (by simp [hsg]; rfl)
            rw [mkCmp_den] at this
            simp only [X.den, d2, D.toInt, cmpI, D.bool.injEq, decide_eq_true_eq] at this
            exact this
          · cases k' <;> simp [IntKind.signed] at hsg <;> simpa [IntKind.min, IntKind.signed] using l2
        refine ⟨_, run_bin_int hcmp _ _ _ _ _ ?_ (fun _ => hj) ?_, fin hrt, rfl⟩
        · cases op <;> simp at hsh ⊢
        · intro hq; cases op <;> simp at hsh hq
      · cases h
    · rename_i hsh
      split at h
      · rename_i hqr
        split at h
        · rename_i hkk
          simp only [Bool.and_eq_true, beq_iff_eq] at hkk
          cases h
          have hj : j ≠ 0 := by
            have := hc _ (by simp; rfl)
            rw [mkCmp_den] at this
            simpa only [X.den, d2, D.toInt, cmpI, D.bool.injEq, bne_iff_ne, ne_eq] using this
          exact ⟨_, run_bin_int hcmp _ _ _ _ _ (.inr (.inr hkk.1)) (fun hs => by cases op <;> simp at hs hsh) (fun _ => hj), fin hkk.2, rfl⟩
        · cases h
      · rename_i hqr
        split at h
        · rename_i hkk
          simp only [Bool.and_eq_true, beq_iff_eq] at hkk
          cases h
          exact ⟨_, run_bin_int hcmp _ _ _ _ _ (.inr (.inr hkk.1)) (fun hs => by cases op <;> simp at hs hsh) (fun hs => by cases op <;> simp at hs hqr), fin hkk.2, rfl⟩
        · cases h
end
end Go.RX
namespace Go.RX

section
variable {P : Program} {B : Base} {ρ : List D} {S : SSt} {w : World} {m : Pl} {av : Av}

/-- equality of cells, by their types -/
def eqD (P : Program) (t : TypeId) (a b : D) : Bool :=
  if (intKind P t).isSome then a.toInt == b.toInt else if isBool P t then a.toBool == b.toBool else a.toStr == b.toStr
def eqDs (P : Program) : List TypeId → List D → List D → Bool
  | t :: ts, a :: as, b :: bs => eqD P t a b && eqDs P ts as bs
  | _, _, _ => true
theorem eqDs_append : ∀ {ts : List TypeId} {as bs : List D}, as.length = ts.length → bs.length = ts.length → ∀ {us : List TypeId} {cs ds : List D}, eqDs P (ts ++ us) (as ++ cs) (bs ++ ds) = (eqDs P ts as bs && eqDs P us cs ds)
  | [], [], [], _, _, _, _, _ => by simp [eqDs]
  | t :: ts, a :: as, b :: bs, h, k, us, cs, ds => by
    simp only [List.cons_append, eqDs, Bool.and_assoc]
    rw [eqDs_append (by simpa using h) (by simpa using k)]
  | [], _ :: _, _, h, _, _, _, _ => by simp at h
  | [], [], _ :: _, _, k, _, _, _ => by simp at k
  | _ :: _, [], _, h, _, _, _, _ => by simp at h
  | _ :: _, _ :: _, [], _, k, _, _, _ => by simp at k

/-- the value that cells of a type make -/
def valOf (P : Program) (t : TypeId) (vs : List Value) : Value := if isAg P t then .agg vs.toArray else vs.headD Go.undef

theorem isAgg_run (t : TypeId) (h : (P.underlying t).isSome = true) : (isAgg t).run P w = .ok (isAg P t) w := by
  obtain ⟨d, hd⟩ := Option.isSome_iff_exists.1 h
  simp only [isAgg, Sem.run_bind, run_underlying hd, Result.andThen_ok, isAg, hd]
  cases d <;> rfl

theorem part_run {t : TypeId} {vs : List Value} {off : Nat} {us : List Value} (hu : (P.underlying t).isSome = true) (hs : isAg P t = true → sizeOf' P t = some us.length) (h1 : isAg P t = false → us.length = 1)
    (h : (vs.drop off).take us.length = us) : (part t vs.toArray off).run P w = .ok (valOf P t us) w := by
  unfold part valOf
  rw [Sem.run_bind, isAgg_run t hu]
  simp only [Result.andThen_ok]
  cases hag : isAg P t
  · simp only [Bool.false_eq_true, if_false]
    have := h1 hag
    match us, this with
    | [u], _ =>
      have e : vs[off]? = some u := by
        have h' : (vs.drop off).take 1 = [u] := h
        have : ((vs.drop off).take 1)[0]? = some u := by rw [h']; rfl
        rw [List.getElem?_take, if_pos (by decide), List.getElem?_drop] at this
        simpa using this
      simp [e]
  · simp only [if_true]
    have hs := hs hag
    unfold sizeOf' at hs
    rw [Option.map_eq_some_iff] at hs
    obtain ⟨i, hi, hsz⟩ := hs
    simp only [sizeOf, typeInfo, Sem.run_bind, run_program, Result.andThen_ok, hi, Sem.run_pure, hsz]
    congr 2
    apply Array.ext'
    rw [← h]
    simp [List.extract_eq_take_drop]

theorem RepL.one {t : TypeId} {vs : List Value} {ds : List D} (h : RepL P w av [t] vs ds) : ∃ v d, vs = [v] ∧ ds = [d] ∧ Rep P w av t v d := by
  cases h with
  | cons r l => cases l; exact ⟨_, _, rfl, rfl, r⟩

theorem eqFieldsOk_run (d : Nat) {ok : TypeId → Bool} {len : TypeId → Nat} {tys : TypeId → List TypeId} (hlen : ∀ u, len u = (tys u).length)
    (hok : ∀ u, ok u = true → (P.underlying u).isSome = true ∧ (isAg P u = true → sizeOf' P u = some (len u)) ∧ (isAg P u = false → tys u = [u]) ∧
      ∀ (vs us : List Value) (as bs : List D), RepL P w av (tys u) vs as → RepL P w av (tys u) us bs → (Op.equalIn d u (valOf P u vs) (valOf P u us)).run P w = .ok (eqDs P (tys u) as bs) w)
    (xs ys : List Value) : ∀ (fs : List Field) (off : Nat), eqOk.eqFieldsOk ok len off fs = true → ∀ (as bs : List D),
      RepL P w av (fs.flatMap fun f => tys f.type) (xs.drop off) as → RepL P w av (fs.flatMap fun f => tys f.type) (ys.drop off) bs →
      (Op.eqFields d xs.toArray ys.toArray fs).run P w = .ok (eqDs P (fs.flatMap fun f => tys f.type) as bs) w
  | [], off, _, as, bs, _, _ => by simp [Op.eqFields, eqDs]
  | f :: fs, off, h, as, bs, hx, hy => by
    simp only [eqOk.eqFieldsOk, Bool.and_eq_true, bne_iff_ne, ne_eq, beq_iff_eq] at h
    obtain ⟨⟨⟨hn, ho⟩, hf⟩, hr⟩ := h
    obtain ⟨hu, hsz, hone, heq⟩ := hok _ hf
    simp only [List.flatMap_cons] at hx hy ⊢
    have hx1 := hx.take (tys f.type).length
    have hx2 := hx.drop (tys f.type).length
    have hy1 := hy.take (tys f.type).length
    have hy2 := hy.drop (tys f.type).length
    rw [List.take_left' rfl] at hx1 hy1
    rw [List.drop_left' rfl, List.drop_drop] at hx2 hy2
    have lx := hx1.length_tys
    have ly := hy1.length_tys
    have px := part_run (P := P) (w := w) (vs := xs) (off := off) hu (fun hg => by rw [hsz hg, lx, hlen]) (fun hg => by rw [lx, hone hg]; rfl) (by rw [lx])
    have py := part_run (P := P) (w := w) (vs := ys) (off := off) hu (fun hg => by rw [hsz hg, ly, hlen]) (fun hg => by rw [ly, hone hg]; rfl) (by rw [ly])
    have he := heq _ _ _ _ hx1 hy1
    have ih := eqFieldsOk_run d hlen hok xs ys fs _ hr _ _ (by rw [hlen]; exact hx2) (by rw [hlen]; exact hy2)
    have ea : as = as.take (tys f.type).length ++ as.drop (tys f.type).length := (List.take_append_drop ..).symm
    have eb : bs = bs.take (tys f.type).length ++ bs.drop (tys f.type).length := (List.take_append_drop ..).symm
    rw [ea, eb, eqDs_append hx1.length_ds hy1.length_ds]
    simp only [Op.eqFields, ne_eq, hn, not_false_eq_true, if_true, Sem.run_bind, ho, px, py, he, Result.andThen_ok]
    cases eqDs P (tys f.type) (as.take (tys f.type).length) (bs.take (tys f.type).length)
    · simp
    · simpa using ih

theorem eqOk_run : ∀ (n : Nat) (t : TypeId), eqOk P n t = true → ∀ d, (isAg P t = false → cellTysN P n t = [t]) ∧ (P.underlying t).isSome = true ∧
    ∀ (vs us : List Value) (as bs : List D), RepL P w av (cellTysN P n t) vs as → RepL P w av (cellTysN P n t) us bs → (Op.equalIn (d + n) t (valOf P t vs) (valOf P t us)).run P w = .ok (eqDs P (cellTysN P n t) as bs) w
  | 0, t, h, d => by simp [eqOk] at h
  | n + 1, t, h, d => by
    have one : isAg P t = false → cellTysN P (n + 1) t = [t] := by
      intro hg
      unfold cellTysN
      unfold isAg at hg
      split <;> rename_i hd <;> simp_all
    refine ⟨one, ?_, ?_⟩
    · unfold eqOk at h
      split at h <;> simp_all
    · intro vs us as bs hx hy
      unfold eqOk at h
      split at h
      · rename_i fs hfs
        simp only [Bool.and_eq_true, Bool.not_eq_true'] at h
        have hg : isAg P t = true := by simp [isAg, hfs]
        have ht : P.underlying t = some (.struct (P.fieldsOf t)) := by simp [Program.fieldsOf, hfs]
        have hfo : P.fieldsOf t = fs := by simp [Program.fieldsOf, hfs]
        have htys : cellTysN P (n + 1) t = fs.toList.flatMap fun f => cellTysN P n f.type := by simp [cellTysN, hfs]
        rw [htys] at hx hy ⊢
        simp only [valOf, hg, if_true]
        rw [← Nat.add_assoc, run_equalIn_struct w (d + n) t vs.toArray us.toArray ht h.1, hfo]
        refine eqFieldsOk_run (av := av) (d + n) (tys := fun u => cellTysN P n u) (fun u => rfl) (fun u hu => ?_) vs us fs.toList 0 h.2 as bs (by simpa using hx) (by simpa using hy)
        simp only [Bool.and_eq_true, beq_iff_eq] at hu
        obtain ⟨h1, h2, h3⟩ := eqOk_run n u hu.1 d
        exact ⟨h2, fun _ => hu.2, h1, h3⟩
      · rename_i k hk
        have hg : isAg P t = false := by simp [isAg, hk]
        have e := one hg
        rw [e] at hx hy ⊢
        obtain ⟨x, dx, rfl, rfl, hx1⟩ := hx.one
        obtain ⟨y, dy, rfl, rfl, hy1⟩ := hy.one
        have h1 := hx1.ofInt hk
        have h2 := hy1.ofInt hk
        simp only [valOf, hg, Bool.false_eq_true, if_false, List.headD_cons]
        rw [h1.1, h2.1, ← Nat.add_assoc, run_equalIn_int w _ t k k _ _ hk]
        simp [eqDs, eqD, intKind_eq.2 hk]
      · rename_i hk
        have hg : isAg P t = false := by simp [isAg, hk]
        have e := one hg
        rw [e] at hx hy ⊢
        obtain ⟨x, dx, rfl, rfl, hx1⟩ := hx.one
        obtain ⟨y, dy, rfl, rfl, hy1⟩ := hy.one
        have h1 := hx1.ofBool hk
        have h2 := hy1.ofBool hk
        simp only [valOf, hg, Bool.false_eq_true, if_false, List.headD_cons]
        rw [h1.1, h2.1, ← Nat.add_assoc, run_equalIn_bool' w _ t _ _ hk]
        simp [eqDs, eqD, isBool_eq.2 hk, intKind, hk]
      · rename_i hk
        have hg : isAg P t = false := by simp [isAg, hk]
        have e := one hg
        rw [e] at hx hy ⊢
        obtain ⟨x, dx, rfl, rfl, hx1⟩ := hx.one
        obtain ⟨y, dy, rfl, rfl, hy1⟩ := hy.one
        have h1 := hx1.ofStr hk
        have h2 := hy1.ofStr hk
        simp only [valOf, hg, Bool.false_eq_true, if_false, List.headD_cons]
        rw [h1.1, h2.1, ← Nat.add_assoc, run_equalIn_string w _ t _ _ hk]
        simp [eqDs, eqD, isBool, intKind, hk]
      · cases h
end
end Go.RX
namespace Go.RX

section
variable {P : Program} {B : Base} {ρ : List D} {S : SSt} {a : Act} {w : World} {m : Pl} {r : Out}

theorem eqCells_den {av : Av} : ∀ {cs ds : List SV} {ts : List TypeId} {e : X}, eqCells P cs ds ts = some e → ∀ {vs us : List Value}, RepSs P w av m ρ cs vs → RepSs P w av m ρ ds us →
    ∃ as bs, RepL P w av ts vs as ∧ RepL P w av ts us bs ∧ e.den ρ = .bool (eqDs P ts as bs)
  | [], [], [], e, h, vs, us, hx, hy => by
    simp [eqCells] at h; subst h
    match vs, us, hx, hy with
    | [], [], _, _ => exact ⟨[], [], .nil, .nil, rfl⟩
  | .x a t :: cs, .x b u :: ds, c :: ts, e, h, vs, us, hx, hy => by
    match vs, us, hx, hy with
    | v :: vs, u' :: us, hx, hy =>
      simp only [eqCells] at h
      split at h
      · cases h
      · rename_i r hr
        obtain ⟨as, bs, l1, l2, hd⟩ := eqCells_den hr hx.2 hy.2
        split at h
        · rename_i hs
          simp only [Bool.and_eq_true] at hs
          have h1 := hx.1
          have h2 := hy.1
          simp only [RepS] at h1 h2
          have h1 := sameTy_rep hs.1 h1
          have h2 := sameTy_rep hs.2 h2
          refine ⟨_, _, .cons h1 l1, .cons h2 l2, ?_⟩
          split at h
          · rename_i hi
            cases h
            rw [mkAnd'_den _ _ ⟨cmpI .eql (a.den ρ).toInt (b.den ρ).toInt, by rw [mkCmp_den]; simp [X.den]⟩]
            simp only [X.den, mkCmp_den, D.toBool, hd, eqDs, eqD, hi, if_true, cmpI]
          · rename_i hi
            split at h
            · rename_i hb
              cases h
              rw [mkAnd'_den _ _ ⟨(a.den ρ).toBool == (b.den ρ).toBool, by simp [X.den]⟩]
              simp only [X.den, D.toBool, hd, eqDs, eqD, hi, hb, if_true]
              simp
            · rename_i hb
              split at h
              · cases h
                rw [mkAnd'_den _ _ ⟨cmpS .eql (a.den ρ).toStr (b.den ρ).toStr, by simp [X.den]⟩]
                simp only [X.den, D.toBool, hd, eqDs, eqD, hi, hb, cmpS]
                simp
              · cases h
        · cases h
  | [], _ :: _, _, _, h, _, _, _, _ => by simp [eqCells] at h
  | [], [], _ :: _, _, h, _, _, _, _ => by simp [eqCells] at h
  | s :: _, [], _, _, h, _, _, _, _ => by simp [eqCells] at h
  | s :: _, s' :: _, [], _, h, _, _, _, _ => by simp [eqCells] at h
  | .any :: _, s' :: _, _ :: _, _, h, _, _, _, _ | .undef :: _, s' :: _, _ :: _, _, h, _, _, _, _ | .nil :: _, s' :: _, _ :: _, _, h, _, _, _, _ | .cons _ _ :: _, s' :: _, _ :: _, _, h, _, _, _, _ | .agg _ :: _, s' :: _, _ :: _, _, h, _, _, _, _
  | .tup _ :: _, s' :: _, _ :: _, _, h, _, _, _, _ | .own _ :: _, s' :: _, _ :: _, _, h, _, _, _, _ | .ptr _ _ :: _, s' :: _, _ :: _, _, h, _, _, _, _ | .nilp :: _, s' :: _, _ :: _, _, h, _, _, _, _ | .nils :: _, s' :: _, _ :: _, _, h, _, _, _, _
  | .full _ _ :: _, s' :: _, _ :: _, _, h, _, _, _, _ | .iptr _ _ _ :: _, s' :: _, _ :: _, _, h, _, _, _, _ | .rptr _ _ _ _ :: _, s' :: _, _ :: _, _, h, _, _, _, _ | .clo _ _ _ :: _, s' :: _, _ :: _, _, h, _, _, _, _ | .nilf :: _, s' :: _, _ :: _, _, h, _, _, _, _
  | .nili :: _, s' :: _, _ :: _, _, h, _, _, _, _ | .ifv :: _, s' :: _, _ :: _, _, h, _, _, _, _ | .lits _ :: _, s' :: _, _ :: _, _, h, _, _, _, _ | .lptr _ :: _, s' :: _, _ :: _, _, h, _, _, _, _ | .mp _ :: _, s' :: _, _ :: _, _, h, _, _, _, _ => by simp [eqCells] at h
  | .x _ _ :: _, .any :: _, _ :: _, _, h, _, _, _, _ | .x _ _ :: _, .undef :: _, _ :: _, _, h, _, _, _, _ | .x _ _ :: _, .nil :: _, _ :: _, _, h, _, _, _, _ | .x _ _ :: _, .cons _ _ :: _, _ :: _, _, h, _, _, _, _ | .x _ _ :: _, .agg _ :: _, _ :: _, _, h, _, _, _, _
  | .x _ _ :: _, .tup _ :: _, _ :: _, _, h, _, _, _, _ | .x _ _ :: _, .own _ :: _, _ :: _, _, h, _, _, _, _ | .x _ _ :: _, .ptr _ _ :: _, _ :: _, _, h, _, _, _, _ | .x _ _ :: _, .nilp :: _, _ :: _, _, h, _, _, _, _ | .x _ _ :: _, .nils :: _, _ :: _, _, h, _, _, _, _
  | .x _ _ :: _, .full _ _ :: _, _ :: _, _, h, _, _, _, _ | .x _ _ :: _, .iptr _ _ _ :: _, _ :: _, _, h, _, _, _, _ | .x _ _ :: _, .rptr _ _ _ _ :: _, _ :: _, _, h, _, _, _, _ | .x _ _ :: _, .clo _ _ _ :: _, _ :: _, _, h, _, _, _, _ | .x _ _ :: _, .nilf :: _, _ :: _, _, h, _, _, _, _
  | .x _ _ :: _, .nili :: _, _ :: _, _, h, _, _, _, _ | .x _ _ :: _, .ifv :: _, _ :: _, _, h, _, _, _, _ | .x _ _ :: _, .lits _ :: _, _ :: _, _, h, _, _, _, _ | .x _ _ :: _, .lptr _ :: _, _ :: _, _, h, _, _, _, _ | .x _ _ :: _, .mp _ :: _, _ :: _, _, h, _, _, _, _ => by simp [eqCells] at h

theorem run_eq_nil {op : BinOp} (hop : op = .eql ∨ op = .neq) (t : TypeId) (x y : Value) (b : Bool) (h : (Op.equal t x y).run P w = .ok b w)
    (hm : binOp op t x y = if op = .eql then (do pure (.bool (← Op.equal t x y))) else (do pure (.bool (!(← Op.equal t x y))))) :
    (binOp op t x y).run P w = .ok (.bool (if op = .neq then !b else b)) w := by
  rw [hm]
  rcases hop with rfl | rfl <;> simp [h]

theorem isAgSV_rep {av : Av} {s : SV} (h : isAgSV P s = true) {v : Value} (hr : RepS P w av m ρ s v) : ∃ vs, v = .agg vs := by
  cases s <;> simp [isAgSV] at h
  case agg cs => simp only [RepS] at hr; obtain ⟨vs, h, _⟩ := hr; exact ⟨vs, h⟩
  case x x t => simp only [RepS] at hr; obtain ⟨_, vs, h, _⟩ := hr.ofAg h; exact ⟨_, h⟩
theorem isPtrTy_eq {t : TypeId} (h : isPtrTy P t = true) : ∃ e, P.underlying t = some (.pointer e) := by
  unfold isPtrTy at h; split at h <;> simp_all
theorem isFuncTy_eq {t : TypeId} (h : isFuncTy P t = true) : ∃ x y z, P.underlying t = some (.func x y z) := by
  unfold isFuncTy at h; split at h <;> simp_all
theorem isIfTy_eq {t : TypeId} (h : isIfTy P t = true) : ∃ e, P.underlying t = some (.interface e) := by
  unfold isIfTy at h; split at h <;> simp_all
theorem equalIn_ptr {t e : TypeId} (he : P.underlying t = some (.pointer e)) (d : Nat) (x : Addr) : (Op.equalIn (d + 1) t (.pointer (some x)) (.pointer none)).run P w = .ok false w ∧ (Op.equalIn (d + 1) t (.pointer none) (.pointer (some x))).run P w = .ok false w := by
  constructor <;> simp [Op.equalIn, run_underlying he]
theorem equalIn_func {t : TypeId} {x y z} (he : P.underlying t = some (.func x y z)) (d : Nat) (f : Fn) (fs cs : Array Value) : (Op.equalIn (d + 1) t (.func f fs cs) .nilFunc).run P w = .ok false w ∧ (Op.equalIn (d + 1) t .nilFunc (.func f fs cs)).run P w = .ok false w := by
  constructor <;> simp [Op.equalIn, run_underlying he]
theorem equalIn_if {t : TypeId} {x} (he : P.underlying t = some (.interface x)) (d : Nat) (u : TypeId) (v : Value) : (Op.equalIn (d + 1) t (.iface u v) .nilIface).run P w = .ok false w ∧ (Op.equalIn (d + 1) t .nilIface (.iface u v)).run P w = .ok false w ∧
    (Op.equalIn (d + 1) t .nilIface .nilIface).run P w = .ok true w := by
  refine ⟨?_, ?_, ?_⟩ <;> simp [Op.equalIn, run_underlying he]
/-- equality of structs -/
theorem symBin_agg (_hM : Mod P B ρ S a w m) {op : BinOp} {xt rt : TypeId} {x y : Operand} {A C : SV} (hA : RepS P w (avOf P m ρ B.fr S.heap) m ρ A (a.eval x)) (hC : RepS P w (avOf P m ρ B.fr S.heap) m ρ C (a.eval y))
    (h : (if eqTy P xt && isAgSV P A && isAgSV P C && (op == .eql || op == .neq) && isBool P rt then
        match cellsOf P A, cellsOf P C with
        | some cs, some ds => match eqCells P cs ds (cellTys P xt) with
          | some e => some { val := SV.x (negIf op e) rt }
          | none => none
        | _, _ => none
      else none) = some r) :
    ∃ v, (do eqGuard op xt x y (a.eval x) (a.eval y); binOp op xt (a.eval x) (a.eval y)).run P w = .ok v w ∧ RepS P w (avOf P m ρ B.fr S.heap) m ρ r.val v ∧ r.sets = [] := by
  split at h
  · rename_i hc
    simp only [Bool.and_eq_true, eqTy, Bool.not_eq_true'] at hc
    obtain ⟨⟨⟨⟨⟨⟨hg, heq⟩, hgt⟩, hg1⟩, hg2⟩, hop⟩, hb⟩ := hc
    have hop := isCmp_eq hop
    split at h
    · rename_i cs ds hcs hds
      split at h
      · rename_i e he
        cases h
        obtain ⟨vs, ev⟩ := isAgSV_rep hg1 hA
        obtain ⟨us, eu⟩ := isAgSV_rep hg2 hC
        have r1 := cellsOf_rep hcs hA
        have r2 := cellsOf_rep hds hC
        rw [ev] at r1; rw [eu] at r2
        obtain ⟨as, bs, l1, l2, hd⟩ := eqCells_den he r1 r2
        have hrun := ((eqOk_run (P := P) (w := w) 8 xt heq 9992).2.2 _ _ _ _ l1 l2)
        simp only [valOf, hg, if_true, Value.cells] at hrun
        rw [ev, eu]
        refine ⟨.bool (if op = .neq then !eqDs P (cellTysN P 8 xt) as bs else eqDs P (cellTysN P 8 xt) as bs), ?_, ?_, rfl⟩
        · rw [Sem.run_bind, run_eqGuard_agg w op xt x y vs us hgt]
          refine run_eq_nil hop xt (.agg vs) (.agg us) _ (by simpa [Op.equal, Op.maxDepth] using hrun) ?_
          rcases hop with rfl | rfl <;> rfl
        · simp only [RepS]
          rw [negIf_den hop hd]
          exact .bool (isBool_eq.1 hb)
      · cases h
    · cases h
  · cases h

theorem symBin_ok (hM : Mod P B ρ S a w m) {op : BinOp} {xt : TypeId} {x y : Operand} {yt rt0 : TypeId} (h : symBin P S op xt x y yt rt0 = some r) (hc : ∀ c ∈ r.chks, c.den ρ = .bool true) :
    ∃ v, (do eqGuard op xt x y (a.eval x) (a.eval y); binOp op xt (a.eval x) (a.eval y)).run P w = .ok v w ∧ RepS P w (avOf P m ρ B.fr S.heap) m ρ r.val v ∧ r.sets = [] := by
  have rx := opv_rep hM x xt
  have ry := opv_rep hM y yt
  unfold symBin at h
  dsimp only at h
  generalize (if isCmp op && !isBool P rt0 then P.rt.bool else rt0) = rt at h
  generalize opv P S x xt = A at h rx
  generalize opv P S y yt = C at h ry
  have nilcase : ∀ {vx vy : Value} {b : Bool}, (op == .eql || op == .neq) = true → isBool P rt = true → a.eval x = vx → a.eval y = vy → (eqGuard op xt x y vx vy).run P w = .ok () w → (Op.equal xt vx vy).run P w = .ok b w →
      (binOp op xt vx vy = if op = .eql then (do pure (.bool (← Op.equal xt vx vy))) else (do pure (.bool (!(← Op.equal xt vx vy))))) →
      ∃ v, (do eqGuard op xt x y (a.eval x) (a.eval y); binOp op xt (a.eval x) (a.eval y)).run P w = .ok v w ∧ RepS P w (avOf P m ρ B.fr S.heap) m ρ (.x (.bool (if op = .neq then !b else b)) rt) v := by
    intro vx vy b hop hb ex ey hg he hbin
    rw [ex, ey]
    refine ⟨.bool (if op = .neq then !b else b), ?_, ?_⟩
    · rw [Sem.run_bind, hg]
      exact run_eq_nil (isCmp_eq hop) xt vx vy b he hbin
    · simp only [RepS, X.den]
      exact .bool (isBool_eq.1 hb)
  split at h
  · rename_i ax t ay u
    split at h
    · rename_i k k' hk hk'
      exact symBin_int hM rx ry hk hk' h hc
    · split at h
      · rename_i hs
        simp only [Bool.and_eq_true] at hs
        simp only [RepS] at rx ry
        obtain ⟨e1, d1, l1⟩ := rx.ofStr (isStr_eq.1 hs.1)
        obtain ⟨e2, d2, l2⟩ := ry.ofStr (isStr_eq.1 hs.2)
        rw [e1, e2, eqGuard_at_string]
        simp only [pure_bind]
        split at h
        · rename_i hop
          simp only [beq_iff_eq] at hop
          subst hop
          split at h
          · rename_i hb
            cases h
            have hlen := hc _ (List.mem_cons_self ..)
            simp only [X.den, D.bool.injEq, decide_eq_true_eq] at hlen
            refine ⟨_, run_bin_cat xt _ _ hlen, ?_, rfl⟩
            simp only [RepS, X.den]
            exact .str (isStr_eq.1 hb) (by simp; omega)
          · cases h
        · split at h
          · rename_i hb
            simp only [Bool.and_eq_true] at hb
            cases h
            refine ⟨_, run_bin_str hb.1 xt _ _, ?_, rfl⟩
            simp only [RepS, X.den]
            exact .bool (isBool_eq.1 hb.2)
          · cases h
      · split at h
        · rename_i hb
          simp only [Bool.and_eq_true] at hb
          obtain ⟨⟨⟨⟨h1, h2⟩, hop⟩, h3⟩, h4⟩ := hb
          cases h
          simp only [RepS] at rx ry
          obtain ⟨e1, d1⟩ := rx.ofBool (isBool_eq.1 h1)
          obtain ⟨e2, d2⟩ := ry.ofBool (isBool_eq.1 h2)
          have := nilcase (b := ((ax.den ρ).toBool == (ay.den ρ).toBool)) hop h3 e1 e2 (by rw [eqGuard_at_bool]; rfl) (run_equal_bool w xt _ _ (isBool_eq.1 h4)) (by rcases isCmp_eq hop with rfl | rfl <;> rfl)
          obtain ⟨v, hv, hr⟩ := this
          refine ⟨v, hv, ?_, rfl⟩
          simp only [RepS] at hr ⊢
          rw [negIf_den (b := ((ax.den ρ).toBool == (ay.den ρ).toBool)) (isCmp_eq hop) (by simp [X.den])]
          simpa [X.den] using hr
        · exact symBin_agg hM rx ry h
  -- a pointer against nil
  · split at h
    · rename_i hb
      cases h
      simp only [Bool.and_eq_true] at hb
      obtain ⟨⟨hop, h3⟩, h4⟩ := hb
      simp only [RepS] at rx ry
      obtain ⟨p, b, _, _, e1⟩ := rx
      obtain ⟨e, he⟩ := isPtrTy_eq h4
      obtain ⟨v, hv, hr⟩ := nilcase (b := false) hop h3 e1 ry (by rw [eqGuard_at_pointer]; rfl) (equalIn_ptr he 9999 _).1 (by rcases isCmp_eq hop with rfl | rfl <;> rfl)
      exact ⟨v, hv, by rcases isCmp_eq hop with rfl | rfl <;> exact hr, rfl⟩
    · cases h
  · split at h
    · rename_i hb
      cases h
      simp only [Bool.and_eq_true] at hb
      obtain ⟨⟨hop, h3⟩, h4⟩ := hb
      simp only [RepS] at rx ry
      obtain ⟨p, b, _, _, e1⟩ := ry
      obtain ⟨e, he⟩ := isPtrTy_eq h4
      obtain ⟨v, hv, hr⟩ := nilcase (b := false) hop h3 rx e1 (by rw [eqGuard_at_pointer]; rfl) (equalIn_ptr he 9999 _).2 (by rcases isCmp_eq hop with rfl | rfl <;> rfl)
      exact ⟨v, hv, by rcases isCmp_eq hop with rfl | rfl <;> exact hr, rfl⟩
    · cases h
  -- a function against nil
  · split at h
    · rename_i hb
      cases h
      simp only [Bool.and_eq_true] at hb
      obtain ⟨⟨hop, h3⟩, h4⟩ := hb
      simp only [RepS] at rx ry
      obtain ⟨p, b, e1, _, _⟩ := rx
      obtain ⟨_, _, _, he⟩ := isFuncTy_eq h4
      obtain ⟨v, hv, hr⟩ := nilcase (b := false) hop h3 e1 ry (by rcases isCmp_eq hop with rfl | rfl <;> rfl) (equalIn_func he 9999 _ _ _).1 (by rcases isCmp_eq hop with rfl | rfl <;> rfl)
      exact ⟨v, hv, by rcases isCmp_eq hop with rfl | rfl <;> exact hr, rfl⟩
    · cases h
  · split at h
    · rename_i hb
      cases h
      simp only [Bool.and_eq_true] at hb
      obtain ⟨⟨hop, h3⟩, h4⟩ := hb
      simp only [RepS] at rx ry
      obtain ⟨p, b, e1, _, _⟩ := ry
      obtain ⟨_, _, _, he⟩ := isFuncTy_eq h4
      obtain ⟨v, hv, hr⟩ := nilcase (b := false) hop h3 rx e1 (by rcases isCmp_eq hop with rfl | rfl <;> rfl) (equalIn_func he 9999 _ _ _).2 (by rcases isCmp_eq hop with rfl | rfl <;> rfl)
      exact ⟨v, hv, by rcases isCmp_eq hop with rfl | rfl <;> exact hr, rfl⟩
    · cases h
  -- an interface value against nil
  · split at h
    · rename_i hb
      cases h
      simp only [Bool.and_eq_true] at hb
      obtain ⟨⟨hop, h3⟩, h4⟩ := hb
      simp only [RepS] at rx ry
      obtain ⟨p, b, e1⟩ := rx
      obtain ⟨_, he⟩ := isIfTy_eq h4
      obtain ⟨v, hv, hr⟩ := nilcase (b := false) hop h3 e1 ry (by rcases isCmp_eq hop with rfl | rfl <;> rfl) (equalIn_if he 9999 _ _).1 (by rcases isCmp_eq hop with rfl | rfl <;> rfl)
      exact ⟨v, hv, by rcases isCmp_eq hop with rfl | rfl <;> exact hr, rfl⟩
    · cases h
  · split at h
    · rename_i hb
      cases h
      simp only [Bool.and_eq_true] at hb
      obtain ⟨⟨hop, h3⟩, h4⟩ := hb
      simp only [RepS] at rx ry
      obtain ⟨p, b, e1⟩ := ry
      obtain ⟨_, he⟩ := isIfTy_eq h4
      obtain ⟨v, hv, hr⟩ := nilcase (b := false) hop h3 rx e1 (by rcases isCmp_eq hop with rfl | rfl <;> rfl) (equalIn_if he 9999 _ _).2.1 (by rcases isCmp_eq hop with rfl | rfl <;> rfl)
      exact ⟨v, hv, by rcases isCmp_eq hop with rfl | rfl <;> exact hr, rfl⟩
    · cases h
  · split at h
    · rename_i hb
      cases h
      simp only [Bool.and_eq_true] at hb
      obtain ⟨⟨⟨hop, h3⟩, hcn⟩, h4⟩ := hb
      simp only [RepS] at rx ry
      obtain ⟨_, he⟩ := isIfTy_eq h4
      have hg : (eqGuard op xt x y .nilIface .nilIface).run P w = .ok () w := by
        rcases isCmp_eq hop with rfl | rfl <;> cases x <;> cases y <;> first | (simp [isConstO] at hcn; done) | (simp [eqGuard]; done)
      obtain ⟨v, hv, hr⟩ := nilcase (b := true) hop h3 rx ry hg (equalIn_if he 9999 0 Go.undef).2.2 (by rcases isCmp_eq hop with rfl | rfl <;> rfl)
      exact ⟨v, hv, by rcases isCmp_eq hop with rfl | rfl <;> exact hr, rfl⟩
    · cases h
  · exact symBin_agg hM rx ry h
end
end Go.RX
namespace Go.RX

section lists
variable {α : Type}
theorem flatten_seg : ∀ (es : List (List α)) (k i : Nat), (∀ x ∈ es, x.length = k) → ∀ {x : List α}, es[i]? = some x → (es.flatten.drop (i * k)).take k = x
  | [], k, i, h, x, hx => by simp at hx
  | y :: es, k, 0, h, x, hx => by
    simp at hx; subst hx
    have := h y (List.mem_cons_self ..)
    simp only [List.flatten_cons, Nat.zero_mul, List.drop_zero]
    rw [← this, List.take_left' rfl]
  | y :: es, k, i + 1, h, x, hx => by
    have hy := h y (List.mem_cons_self ..)
    simp only [List.flatten_cons]
    rw [show (i + 1) * k = y.length + i * k by rw [Nat.add_mul, hy]; omega, ← List.drop_drop, List.drop_left' rfl]
    exact flatten_seg es k i (fun z hz => h z (List.mem_cons_of_mem _ hz)) (by simpa using hx)
theorem flatten_len : ∀ (es : List (List α)) (k : Nat), (∀ x ∈ es, x.length = k) → es.flatten.length = es.length * k
  | [], k, h => by simp
  | y :: es, k, h => by
    have hy := h y (List.mem_cons_self ..)
    simp only [List.flatten_cons, List.length_append, List.length_cons, flatten_len es k (fun z hz => h z (List.mem_cons_of_mem _ hz)), hy, Nat.add_mul]
    omega
end lists

section
variable {P : Program} {B : Base} {ρ : List D} {S : SSt} {a : Act} {w : World} {m : Pl} {n : Nat} {o : Oper} {r : Out} {av : Av}

theorem sizeOk_eq {t : TypeId} (h : sizeOk P t = true) : sizeOf' P t = some (cellTys P t).length ∧ (P.underlying t).isSome = true := by
  simpa [sizeOk] using h
theorem sizeOk_run {t : TypeId} (h : sizeOk P t = true) : (sizeOf t).run P w = .ok (cellTys P t).length w := by
  have := (sizeOk_eq h).1
  unfold sizeOf' at this
  rw [Option.map_eq_some_iff] at this
  obtain ⟨i, hi, hs⟩ := this
  simp [sizeOf, typeInfo, hi, hs]
theorem cellTys_one {t : TypeId} (h : isAg P t = false) : cellTys P t = [t] := by
  unfold cellTys cellTysN
  unfold isAg at h
  split <;> rename_i hd <;> simp_all
theorem rowTys_seg {e : TypeId} {n i : Nat} (h : i < n) : ((rowTys P e n).drop (i * (cellTys P e).length)).take (cellTys P e).length = cellTys P e := by
  refine flatten_seg (List.replicate n (cellTys P e)) _ i (fun x hx => by rw [(List.mem_replicate.1 hx).2]) ?_
  rw [List.getElem?_replicate, if_pos h]
theorem rowTys_len (e : TypeId) (n : Nat) : (rowTys P e n).length = n * (cellTys P e).length := by
  rw [rowTys, flatten_len _ (cellTys P e).length (fun x hx => by rw [(List.mem_replicate.1 hx).2]), List.length_replicate]

/-- Cells are read as a value. -/
theorem loadAt_run {t : TypeId} (h : sizeOk P t = true) {b off : Nat} {us : List Value} (hl : us.length = (cellTys P t).length) (hc : ∀ j v, us[j]? = some v → w.cell? ⟨b, off + j, none⟩ = some v) :
    (Instr.loadAt t (.pointer (some ⟨b, off, none⟩))).run P w = .ok (valOf P t us) w := by
  simp only [Instr.loadAt, Instr.sureAddr, Sem.run_bind, Sem.run_pure, Result.andThen_ok, loadVar, isAgg_run t (sizeOk_eq h).2]
  unfold valOf
  cases hag : isAg P t
  · simp only [Bool.false_eq_true, if_false]
    rw [cellTys_one hag] at hl
    match us, hl with
    | [u], _ =>
      have := hc 0 u rfl
      simp only [Nat.add_zero] at this
      simp [this]
  · simp only [if_true, Sem.run_bind, sizeOk_run h, Result.andThen_ok]
    rw [← hl, run_loadCells_list w ⟨b, off, none⟩ us (fun j v hj => by rw [Addr.add_lit]; exact hc j v hj)]
    simp

/-- A part of data's cells, read. -/
theorem partOf_rep {x : X} {ts : List TypeId} {off : Nat} {t : TypeId} {s : SV} (h : partOf P x ts off t = some s) {vs : List Value} (hr : RepL P w av ts vs (x.den ρ).aggL) :
    ((vs.drop off).take (cellTys P t).length).length = (cellTys P t).length ∧ RepS P w av m ρ s (valOf P t ((vs.drop off).take (cellTys P t).length)) := by
  unfold partOf at h
  dsimp only at h
  have hd := (hr.drop off).take (cellTys P t).length
  split at h
  · rename_i hag
    split at h
    · rename_i hu
      simp only [beq_iff_eq] at hu
      cases h
      rw [hu] at hd
      refine ⟨hd.length_tys, ?_⟩
      simp only [RepS, valOf, hag, if_true]
      have key := Rep.agg (P := P) (w := w) hag hd
      split
      · rename_i hz
        simp only [Bool.and_eq_true, beq_iff_eq, bne_iff_ne, ne_eq] at hz
        obtain ⟨⟨rfl, hn⟩, h0⟩ := hz
        have e1 : ((x.den ρ).aggL.drop 0).take (cellTys P t).length = (x.den ρ).aggL := by rw [List.drop_zero, hn, ← hr.length_ds, List.take_length]
        rw [e1] at key
        have e2 : x.den ρ = .agg (x.den ρ).aggL := by
          have hl := hr.length_ds
          cases hx : x.den ρ <;> simp [hx, D.aggL] at hl ⊢ <;> omega
        rw [e2]; exact key
      · rw [mkSub_den]
        exact key
    · cases h
  · rename_i hag
    simp only [Bool.not_eq_true] at hag
    rw [cellTys_one hag] at h hd ⊢
    simp only [List.length_singleton] at h hd ⊢
    split at h
    · rename_i u hu
      split at h
      · rename_i hs
        cases h
        rw [hu] at hd
        obtain ⟨v, d, e1, e2, hr1⟩ := hd.one
        rw [e1]
        refine ⟨rfl, ?_⟩
        simp only [RepS, valOf, hag, Bool.false_eq_true, if_false, List.headD_cons, mkFld_den, X.den]
        have : (x.den ρ).aggL.getD off default = d := by
          have h1 : (((x.den ρ).aggL.drop off).take 1)[0]? = some d := by rw [e2]; rfl
          rw [List.getElem?_take, if_pos (by decide), List.getElem?_drop] at h1
          simp only [Nat.add_zero] at h1
          rw [List.getD_eq_getElem?_getD, h1]; rfl
        rw [this]
        exact sameTy_rep hs hr1
      · cases h
    · cases h

theorem partSV_rep {cs : List SV} {off : Nat} {t : TypeId} {s : SV} (h : partSV P cs off t = some s) {vs : List Value} (hr : RepSs P w av m ρ cs vs) :
    ((vs.drop off).take (cellTys P t).length).length = (cellTys P t).length ∧ RepS P w av m ρ s (valOf P t ((vs.drop off).take (cellTys P t).length)) := by
  unfold partSV at h
  dsimp only at h
  have hd := (hr.drop off).take (cellTys P t).length
  split at h
  · rename_i hl
    simp only [beq_iff_eq] at hl
    refine ⟨by rw [← hd.length]; exact hl, ?_⟩
    split at h
    · rename_i hag
      cases h
      simp only [RepS, valOf, hag, if_true]
      exact ⟨_, rfl, repSL_ofL.2 (by simpa using hd)⟩
    · rename_i hag
      simp only [Bool.not_eq_true] at hag
      split at h
      · rename_i v hv
        cases h
        rw [hv] at hd
        simp only [valOf, hag, Bool.false_eq_true, if_false]
        cases hx : (vs.drop off).take (cellTys P t).length with
        | nil => rw [hx] at hd; exact hd.elim
        | cons y ys => rw [hx] at hd; exact hd.1
      · cases h
  · cases h

/-- the cells of an element of a row -/
theorem row_elem {e : TypeId} {c : X} {wr : Bool} {p : Place} (hok : ObjOk P w av m ρ (some p) (.row e c wr)) {b n' cap : Nat} (hp : p.val = .slice (some ⟨b, 0, none⟩) n' cap) {i : Nat} (hi : i < n') :
    n' = (c.den ρ).toSl.length ∧ p.block = some b ∧ ∃ vs : List Value, RepL P w av (cellTys P e) vs ((c.den ρ).toSl.getD i []) ∧ (∀ j v, vs[j]? = some v → w.cell? ⟨b, i * (cellTys P e).length + j, none⟩ = some v) ∧
      (∀ j, w.frozen? ⟨b, j, none⟩ = false) := by
  obtain ⟨es, xs, v, h1, h2, h3, h4, h5, h6⟩ := hok
  cases h1
  have hes : (c.den ρ).toSl = es := by rw [h2]; rfl
  rw [hes]
  simp only at hp
  have hcell := h4.cells (g := b) (by rw [hp]; rfl)
  rcases h4.2 with ⟨hv, _⟩ | ⟨g, cap', cur, hv, _, hg, _⟩
  · rw [hv] at hp; cases hp
  · rw [hv] at hp; cases hp
    refine ⟨rfl, by rw [hv]; rfl, ?_⟩
    have hx : es[i]? = some es[i] := List.getElem?_eq_getElem hi
    have hd := (h6.drop (i * (cellTys P e).length)).take (cellTys P e).length
    rw [rowTys_seg hi, flatten_seg es _ i h5 hx] at hd
    refine ⟨_, by rw [List.getD_eq_getElem?_getD, hx]; exact hd, fun j u hj => ?_, fun j => by simp [World.frozen?, hg]⟩
    rw [List.getElem?_take] at hj
    split at hj
    · rw [List.getElem?_drop] at hj
      have := hcell _ u hj
      rwa [Addr.add_lit, Nat.zero_add] at this
    · cases hj

theorem symLoad_ok (hM : Mod P B ρ S a w m) {t : TypeId} {p : SV} {v : Value} (hp : RepS P w (avOf P m ρ B.fr S.heap) m ρ p v) (h : symLoad P S t p = some r) :
    ∃ u, (Instr.loadAt t v).run P w = .ok u w ∧ RepS P w (avOf P m ρ B.fr S.heap) m ρ r.val u ∧ r.sets = [] ∧ r.chks = [] := by
  unfold symLoad at h
  split at h
  · cases h
  rename_i hs
  simp only [Bool.not_eq_true, Bool.not_eq_false'] at hs
  split at h
  · rename_i o off
    simp only [RepS] at hp
    obtain ⟨q, b, hq, hqv, rfl⟩ := hp
    have hok := hM.sim.ok o
    have box : ∀ {cs : SV} {vs : Array Value} {T fz}, m o = some ⟨some b, .pointer (some ⟨b, 0, none⟩)⟩ → w.heap[b]? = some (.cells vs T fz) → RepSL P w (avOf P m ρ B.fr S.heap) m ρ cs vs.toList → (partSV P cs.toL off t).map (fun v => ({ val := v } : Out)) = some r →
        ∃ u, (Instr.loadAt t (.pointer (some ⟨b, off, none⟩))).run P w = .ok u w ∧ RepS P w (avOf P m ρ B.fr S.heap) m ρ r.val u ∧ r.sets = [] ∧ r.chks = [] := by
      intro cs vs T fz h1 h2 h3 h
      rw [Option.map_eq_some_iff] at h
      obtain ⟨s, hs1, rfl⟩ := h
      obtain ⟨hl, hr⟩ := partSV_rep hs1 (repSL_toL _ h3)
      refine ⟨_, loadAt_run hs hl (fun j u hj => ?_), hr, rfl, rfl⟩
      rw [List.getElem?_take] at hj
      split at hj
      · rw [List.getElem?_drop] at hj
        rw [cell_of_row w b _ vs T fz h2]
        simpa using hj
      · cases hj
    split at h
    · rename_i cs hob
      rw [hob] at hok
      obtain ⟨b', vs, T, h1, h2, h3⟩ := hok
      rw [hq] at h1; cases h1
      cases hqv
      exact box hq h2 h3 h
    · rename_i cs hob
      rw [hob] at hok
      obtain ⟨b', vs, T, fz, h1, h2, h3⟩ := hok
      rw [hq] at h1; cases h1
      cases hqv
      exact box hq h2 h3 h
    · cases h
  · rename_i e x off
    simp only [RepS] at hp
    obtain ⟨b, o, rfl, hm⟩ := hp
    rw [Option.map_eq_some_iff] at h
    obtain ⟨s, hs1, rfl⟩ := h
    obtain ⟨vs, hl, hc⟩ := hm.vals
    obtain ⟨hn, hr⟩ := partOf_rep hs1 hl
    refine ⟨_, loadAt_run hs hn (fun j u hj => ?_), hr, rfl, rfl⟩
    rw [List.getElem?_take] at hj
    split at hj
    · rw [List.getElem?_drop] at hj
      rw [Nat.add_assoc]
      exact hc _ _ hj
    · cases hj
  · rename_i x
    split at h
    · cases h
    · rename_i hag
      simp only [Bool.not_eq_true] at hag
      cases h
      simp only [RepS] at hp
      obtain ⟨b, off, y, rfl, hc, _, hr⟩ := hp
      refine ⟨y, ?_, hr, rfl, rfl⟩
      have := loadAt_run (P := P) (w := w) hs (b := b) (off := off) (us := [y]) (by rw [cellTys_one hag]; rfl) (fun j v hj => by
        cases j with
        | zero => simp at hj; subst hj; exact hc
        | succ j => simp at hj)
      simpa [valOf, hag] using this
  · rename_i e rr i off
    simp only [RepS] at hp
    obtain ⟨q, b, n', cap, hq, hqv, hi0, hi, rfl⟩ := hp
    have hok := hM.sim.ok rr
    split at h
    · rename_i e' c wr hob
      split at h
      · rename_i he
        simp only [beq_iff_eq] at he
        subst he
        rw [hob, hq] at hok
        obtain ⟨hn, hb, vs, hl, hc, _⟩ := row_elem hok hqv hi
        rw [Option.map_eq_some_iff] at h
        obtain ⟨s, hs1, rfl⟩ := h
        have hl' : RepL P w (avOf P m ρ B.fr S.heap) (cellTys P e) vs ((X.idx c i).den ρ).aggL := hl
        obtain ⟨hn', hr⟩ := partOf_rep hs1 hl'
        refine ⟨_, loadAt_run hs hn' (fun j u hj => ?_), hr, rfl, rfl⟩
        rw [List.getElem?_take] at hj
        split at hj
        · rw [List.getElem?_drop] at hj
          rw [Nat.add_assoc]
          exact hc _ _ hj
        · cases hj
      · cases h
    · cases h
  · cases h
end
end Go.RX
