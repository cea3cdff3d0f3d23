/- Sx1: the executor's plain operations, and that they say what the model does. General: no program. -/
import Derived.Test.YtgkjblbmiooedaaSx0
namespace Go.Sx
open Go.RowKit

def szT (P : Program) (t : TypeId) : Option Nat := (P.info? t).map (·.size)
def aggD : TypeDesc → Bool
  | .struct _ | .array _ _ => true
  | _ => false
def offT (P : Program) (s : TypeId) (f : Nat) : Option (Nat × TypeId) :=
  match P.underlying s with
  | some (.struct fs) => (fs[f]?).bind fun x => match szT P x.type with
    | some (_ + 1) => some (x.offset, x.type)
    | _ => none
  | _ => none

def SV.cells : SV → Option (List SV)
  | .u => none
  | .v (.agg cs) => some (cs.toList.map .v)
  | .v (.tuple _) => none
  | .v x => some [.v x]
  | .agg l => some l
  | .tup _ => none
  | x => some [x]
def SV.one : SV → Bool
  | .v x => x.oneCell'
  | .p .. | .s .. | .fn .. | .ifc .. => true
  | _ => false
def SV.isU : SV → Bool
  | .u => true
  | _ => false

/-- What a row of cells holds at a place, read as a value of a type. -/
def ldB (P : Program) (t : TypeId) (cs : List SV) (off : Nat) : Option SV :=
  match P.underlying t, szT P t with
  | some d, some n =>
    if aggD d then
      let l := (cs.drop off).take n
      if l.length = n then some (if l.any SV.isU then .u else .agg l) else none
    else cs[off]?
  | _, _ => none

def bitB (op : BinOp) (k : IntKind) (x y : Int) : Option Int :=
  let a := BitVec.ofInt k.bits x
  let b := BitVec.ofInt k.bits y
  match op with
  | .and => some (k.wrap (a &&& b).toNat)
  | .or => some (k.wrap (a ||| b).toNat)
  | .xor => some (k.wrap (a ^^^ b).toNat)
  | .andNot => some (k.wrap (a &&& ~~~b).toNat)
  | _ => none

def intV (op : BinOp) (k : IntKind) (a b : Int) : Option Value :=
  match op with
  | .add => some (.int k (k.wrap (a + b)))
  | .sub => some (.int k (k.wrap (a - b)))
  | .mul => some (.int k (k.wrap (a * b)))
  | .eql => some (.bool (a == b))
  | .neq => some (.bool (a != b))
  | .lss => some (.bool (decide (a < b)))
  | .leq => some (.bool (decide (a ≤ b)))
  | .gtr => some (.bool (decide (a > b)))
  | .geq => some (.bool (decide (a ≥ b)))
  | op => (bitB op k a b).map (.int k)

def binV (P : Program) (op : BinOp) (t : TypeId) : Value → Value → Option Value
  | .int k a, .int k' b =>
    match op with
    | .shl => match b with
      | .ofNat n => some (.int k (k.wrap (a * 2 ^ min n k.bits)))
      | _ => none
    | .shr => match b with
      | .ofNat n => some (.int k (a.fdiv (2 ^ min n k.bits)))
      | _ => none
    | _ =>
    if k = k' then intV op k a b
    else none
  | .bool a, .bool b =>
    match P.underlying t, op with
    | some .bool, .eql => some (.bool (a == b))
    | some .bool, .neq => some (.bool (!(a == b)))
    | _, _ => none
  | .string a, .string b =>
    match op with
    | .eql => some (.bool (a.toList == b.toList))
    | .neq => some (.bool (!(a.toList == b.toList)))
    | .lss => some (.bool (Op.bytesLess a.toList b.toList))
    | .leq => some (.bool (Op.bytesLess a.toList b.toList || a.toList == b.toList))
    | .gtr => some (.bool (!(Op.bytesLess a.toList b.toList || a.toList == b.toList)))
    | .geq => some (.bool (!Op.bytesLess a.toList b.toList))
    | _ => none
  | .iface _ _, .nilIface =>
    match P.underlying t, op with
    | some (.interface _), .eql => some (.bool false)
    | some (.interface _), .neq => some (.bool true)
    | _, _ => none
  | .slice none _ _, .slice none _ _ =>
    match P.underlying t, op with
    | some (.slice _), .eql => some (.bool true)
    | some (.slice _), .neq => some (.bool false)
    | _, _ => none
  | .slice (some _) _ _, .slice none _ _ =>
    match P.underlying t, op with
    | some (.slice _), .eql => some (.bool false)
    | some (.slice _), .neq => some (.bool true)
    | _, _ => none
  | _, _ => none

def binS (P : Program) (op : BinOp) (t : TypeId) : SV → SV → Option SV
  | .v x, .v y => (binV P op t x y).map .v
  | .ifc _ _, .v .nilIface =>
    match P.underlying t, op with
    | some (.interface _), .eql => some (.v (.bool false))
    | some (.interface _), .neq => some (.v (.bool true))
    | _, _ => none
  | .s _ _ _ _, .v (.slice none _ _) =>
    match P.underlying t, op with
    | some (.slice _), .eql => some (.v (.bool false))
    | some (.slice _), .neq => some (.v (.bool true))
    | _, _ => none
  | _, _ => none

def unS (op : UnOp) : SV → Option SV
  | .v (.bool b) => match op with
    | .not => some (.v (.bool (!b)))
    | _ => none
  | .v (.int k n) => match op with
    | .neg => some (.v (.int k (k.wrap (0 - n))))
    | .xor => (bitB .xor k (if k.signed then -1 else k.max) n).map fun z => .v (.int k z)
    | _ => none
  | _ => none

def setAt (cs xs : List SV) (off : Nat) : List SV := cs.take off ++ xs ++ cs.drop (off + xs.length)

/-- 'build': the parts laid into zero cells. -/
def fillS (place : Nat → Option (Nat × Nat)) (cells : List SV) : List (Nat × SV) → Option (List SV)
  | [] => some cells
  | (i, x) :: rest =>
    match place i, x.cells with
    | some (off, size), some xs => if xs.length = size ∧ off + size ≤ cells.length ∧ xs.all SV.one then fillS place (setAt cells xs off) rest else none
    | _, _ => none
def placeB (P : Program) (t : TypeId) (i : Nat) : Option (Nat × Nat) :=
  match P.underlying t with
  | some (.struct fs) => (fs[i]?).bind fun f => (szT P f.type).map fun n => (f.offset, n)
  | some (.array _ e) => (szT P e).map fun n => (i * n, n)
  | _ => none

def buildOk (P : Program) (t : TypeId) : Bool :=
  match P.underlying t with
  | some (.struct fs) => fs.toList.all fun f => (szT P f.type).isSome
  | some (.array _ e) => (szT P e).isSome
  | _ => false

def ev (P : Program) (S : SS) (o : Oper) : Option (SV × List Blk) :=
  match o.op with
  | .move x | .assign x => some (S.get x, S.hp)
  | .pick c a b => match S.get c with
    | .v (.bool t) => some (if t then S.get a else S.get b, S.hp)
    | _ => none
  | .alloc e => match P.info? e with
    | some i => match i.zero with
      | some z => some (.p S.hp.length 0, S.hp ++ [.c (z.cells.toList.map .v) e])
      | none => none
    | none => none
  | .box e x => match (S.get x).cells with
    | some cs => some (.p S.hp.length 0, S.hp ++ [.c cs e])
    | none => none
  | .load t a => match S.get a with
    | .p i off => match S.hp[i]? with
      | some (.c cs _) => (ldB P t cs off).map fun x => (x, S.hp)
      | some (.f _ cs _) => (ldB P t (cs.map .v) off).map fun x => (x, S.hp)
      | _ => none
    | _ => none
  | .store t a x => match S.get a, (S.get x).cells with
    | .p i off, some xs => match S.hp[i]? with
      | some (.c cs ct) => if szT P t = some xs.length ∧ off + xs.length ≤ cs.length ∧ xs.all SV.one then some (.v undef, S.hp.set i (.c (setAt cs xs off) ct)) else none
      | _ => none
    | _, _ => none
  | .fieldAddr t x f => match S.get x, offT P t f with
    | .p i off, some (k, _) => some (.p i (off + k), S.hp)
    | .v (.pointer (some ⟨g, off, none⟩)), some (k, _) => some (.v (.pointer (some ⟨g, off + k, none⟩)), S.hp)
    | _, _ => none
  | .field t x f => match (S.get x).cells, offT P t f with
    | some cs, some (k, ty) => match S.get x with
      | .agg _ | .v (.agg _) => (ldB P ty cs k).map fun x => (x, S.hp)
      | _ => none
    | _, _ => none
  | .index t x ix => match P.underlying t, S.get ix with
    | some (.array len e), .v (.int _ (.ofNat i)) => match S.get x, szT P e with
      | .agg cs, some n => if i < len then (ldB P e cs (i * n)).map fun x => (x, S.hp) else none
      | _, _ => none
    | _, _ => none
  | .binOp op t x y _ => (binS P op t (S.get x) (S.get y)).map fun z => (z, S.hp)
  | .unOp op _ x => (unS op (S.get x)).map fun z => (z, S.hp)
  | .convert s d x => match P.underlying s, P.underlying d, S.get x with
    | some _, some (.int k), .v (.int _ n) => some (.v (.int k (k.wrap n)), S.hp)
    | _, _, _ => none
  | .extract t i => match S.get t with
    | .tup l => (l[i]?).map fun x => (x, S.hp)
    | .v (.tuple vs) => (vs[i]?).map fun x => (.v x, S.hp)
    | _ => none
  | .makeFunc fn first caps => if first.isEmpty && !(caps.toList.map S.get).any SV.isU then some (.fn fn (caps.toList.map S.get), S.hp) else none
  | .nilCheck x => match S.get x with
    | .p i off => some (.p i off, S.hp)
    | .v (.pointer (some a)) => some (.v (.pointer (some a)), S.hp)
    | .v (.func (.func f) c d) => some (.v (.func (.func f) c d), S.hp)
    | .fn (.func f) l => some (.fn (.func f) l, S.hp)
    | _ => none
  | .build t parts => match P.underlying t with
    | some d => match (P.info? t).bind (·.zero) with
      | some z => if aggD d && buildOk P t then (fillS (placeB P t) (z.cells.toList.map .v) (parts.toList.map fun q => (q.1, S.get q.2))).bind fun l => if l.any SV.isU then none else some (.agg l, S.hp) else none
      | none => none
    | none => none
  | .buildSlice t len parts => match P.underlying t with
    | some (.slice e) => match P.info? e with
      | some i => match i.zero with
        | some z => if len * i.size ≤ 2 ^ 24 ∧ z.cells.size = i.size then
            (fillS (fun j => some (j * i.size, i.size)) ((List.range (len * i.size)).map fun j => .v (z.cells[j % z.cells.size]!)) (parts.toList.map fun q => (q.1, S.get q.2))).map fun l => (.s S.hp.length 0 len len, S.hp ++ [.c l e])
          else none
        | none => none
      | none => none
    | _ => none
  | .makeInterface t x => match P.underlying t with
    | some (.interface _) | none => none
    | some _ => match S.get x with
      | .u => none
      | y => some (.ifc t y, S.hp)
  | .call { callee := .builtin .len, args, argTypes } => match args.toList, (argTypes[0]?).bind P.underlying with
    | [x], some (.slice _) => match S.get x with
      | .v (.slice _ n _) => some (.v (.int .i64 n), S.hp)
      | .s _ _ n _ => some (.v (.int .i64 n), S.hp)
      | _ => none
    | [x], some .string => match S.get x with
      | .v (.string b) => some (.v (.int .i64 b.size), S.hp)
      | _ => none
    | [_], some (.array n _) => some (.v (.int .i64 n), S.hp)
    | _, _ => none
  | _ => none

def evS (P : Program) (S : SS) (o : Oper) : Option SS :=
  match ev P S o with
  | some (x, hp) => let S' : SS := { fr := (S.put o.dst x).fr, hp }; if S'.bd then some S' else none
  | none => none

def wantS (ops : Array Oper) (S : SS) (o : Oper) : Option Bool :=
  match o.guard with
  | none => some true
  | some (j, want) => match (ops[j]?).bind (·.dst) with
    | some d => match S.fr[d]? with
      | some (.v (.bool b)) => some (b == want)
      | some (.v (.tuple _)) => some false
      | _ => none
    | none => none

def stepS (P : Program) (ops : Array Oper) (S : SS) (o : Oper) : Option SS :=
  match wantS ops S o with
  | some true => evS P S o
  | some false => some (S.put o.dst (.v undef))
  | none => none

def runS (P : Program) (ops : Array Oper) : List Oper → SS → Option SS
  | [], S => some S
  | o :: l, S => match stepS P ops S o with
    | some S' => runS P ops l S'
    | none => none
end Go.Sx
