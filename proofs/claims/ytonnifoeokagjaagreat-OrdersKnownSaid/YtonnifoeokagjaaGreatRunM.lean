/-
  The abstract machine: values, heap, operations, steps; plain functions, no statement yet. No condition.
-/
import Derived.Orders
import Derived.Below
namespace Go.Proofs.YtonnifoeokagjaaGreat
open Go
namespace Abs

inductive BT (α : Type) where
  | nil
  | node (v : Option α) (l r : BT α)

namespace BT
variable {α : Type}
def val : BT α → Option α
  | nil => none
  | node v _ _ => v
def left : BT α → BT α
  | nil => nil
  | node _ l _ => l
def right : BT α → BT α
  | nil => nil
  | node _ _ r => r
noncomputable def get (t : BT α) : Nat → Option α :=
  BT.rec (motive := fun _ => Nat → Option α) (fun _ => none)
    (fun v _ _ ihl ihr n => Nat.rec (motive := fun _ => Option α) v
      (fun m _ => Bool.rec (motive := fun _ => Option α) (ihr (Nat.div m (nat_lit 2))) (ihl (Nat.div m (nat_lit 2))) (Nat.beq (Nat.mod m (nat_lit 2)) (nat_lit 0))) n) t
noncomputable def set (f : Nat) : BT α → Nat → α → BT α :=
  Nat.rec (motive := fun _ => BT α → Nat → α → BT α) (fun t _ _ => t)
    (fun _ ih t n a => BT.rec (motive := fun _ => BT α)
      (Nat.rec (motive := fun _ => BT α) (node (some a) nil nil)
        (fun m _ => Bool.rec (motive := fun _ => BT α) (node none nil (ih nil (Nat.div m (nat_lit 2)) a)) (node none (ih nil (Nat.div m (nat_lit 2)) a) nil) (Nat.beq (Nat.mod m (nat_lit 2)) (nat_lit 0))) n)
      (fun v l r _ _ => Nat.rec (motive := fun _ => BT α) (node (some a) l r)
        (fun m _ => Bool.rec (motive := fun _ => BT α) (node v l (ih r (Nat.div m (nat_lit 2)) a)) (node v (ih l (Nat.div m (nat_lit 2)) a) r) (Nat.beq (Nat.mod m (nat_lit 2)) (nat_lit 0))) n) t) f
end BT

inductive AV where
  | g (v : Value)
  | ptr (b off : Nat)
  | sl (b off len cap : Nat)
  | slx (b off k len : Nat)
  | sle
  | mp (b : Nat)
  | yld (b : Nat)
  | fn (f : FuncId) (cap : List AV)
  | ifc (t : TypeId) (v : AV)
  | agg (cs : List AV)
  | tup (vs : List AV)
  deriving Inhabited

inductive AD where
  | fn (f : FuncId) (cap args : List AV)
  | coll (b : Nat)

structure ALoop where
  state : LoopState
  pending : Option Code
  fn : FuncId
  slots : BT AV
  size : Nat
  params : List Tmp
  assign : Code
  body : Code
  defers : Nat

inductive AO where
  | cells (cs : List AV) (elem : TypeId)
  | cellsx (cs : List AV) (elem : TypeId) (es : Nat)
  | map (es : List (AV × AV × Nat)) (clock : Nat)
  | loop (l : ALoop)
  | defs (calls : Option (List AD))
  | dead

abbrev Heap := BT AO
noncomputable def hget (h : Heap) (b : Nat) : Option AO := h.get b
noncomputable def hset (h : Heap) (b : Nat) (o : AO) : Heap := BT.set (b + 1) h b o

noncomputable def sset (t : BT AV) (i : Nat) (v : AV) : BT AV := BT.set (i + 1) t i v
noncomputable def slot (t : BT AV) (i : Nat) : AV := match t.get i with | some v => v | none => .g undef

mutual
def AV.toG : AV → Option Value
  | .g v => some v
  | .agg cs => match AV.toGs cs with | some l => some (.agg l.toArray) | none => none
  | .ifc t v => match AV.toG v with | some u => some (.iface t u) | none => none
  | _ => none
def AV.toGs : List AV → Option (List Value)
  | [] => some []
  | a :: as => match AV.toG a with
    | some v => match AV.toGs as with
      | some l => some (v :: l)
      | none => none
    | none => none
end

/-- the cells of a value -/
def AV.cells : AV → Option (List AV)
  | .agg cs => some cs
  | .g (.agg cs) => some (cs.toList.map .g)
  | .tup _ => none
  | .g (.tuple _) => none
  | v => some [v]

def AV.isCell : AV → Bool
  | .agg _ | .tup _ | .g (.agg _) | .g (.tuple _) => false
  | _ => true

def pureRun {α : Type} (P : Program) : Sem α → Option α
  | .pure a => some a
  | .program k => pureRun P (k P)
  | .mark _ k => pureRun P k
  | _ => none

def i64ok (n : Int) : Bool := decide (-9223372036854775808 ≤ n) && decide (n < 9223372036854775808)
def wrapF (k : IntKind) (n : Int) : Int := match k with
  | .i64 => if i64ok n then n else k.wrap n
  | k => k.wrap n

noncomputable def takeL {α : Type} (n : Nat) : List α → Option (List α) :=
  Nat.rec (motive := fun _ => List α → Option (List α)) (fun _ => some [])
    (fun _ ih l => List.rec (motive := fun _ => Option (List α)) none
      (fun a l _ => Option.rec (motive := fun _ => Option (List α)) none (fun r => some (a :: r)) (ih l)) l) n
noncomputable def dropL {α : Type} (n : Nat) : List α → Option (List α) :=
  Nat.rec (motive := fun _ => List α → Option (List α)) (fun l => some l)
    (fun _ ih l => List.rec (motive := fun _ => Option (List α)) none (fun _ l _ => ih l) l) n
noncomputable def nthL {α : Type} (n : Nat) (l : List α) : Option α :=
  List.rec (motive := fun _ => Nat → Option α) (fun _ => none)
    (fun a _ ih n => Nat.rec (motive := fun _ => Option α) (some a) (fun m _ => ih m) n) l n
/-- put the cells vs into l from place n on -/
noncomputable def putL {α : Type} (n : Nat) : List α → List α → Option (List α) :=
  Nat.rec (motive := fun _ => List α → List α → Option (List α))
    (fun l => List.rec (motive := fun _ => List α → Option (List α))
      (fun vs => List.rec (motive := fun _ => Option (List α)) (some []) (fun _ _ _ => none) vs)
      (fun a l ih vs => List.rec (motive := fun _ => Option (List α)) (some (a :: l))
        (fun v vs _ => Option.rec (motive := fun _ => Option (List α)) none (fun r => some (v :: r)) (ih vs)) vs) l)
    (fun _ ih l vs => List.rec (motive := fun _ => Option (List α)) none
      (fun a l _ => Option.rec (motive := fun _ => Option (List α)) none (fun r => some (a :: r)) (ih l vs)) l) n

inductive QR where
  | val (v : AV)
  | newP (o : AO)
  | newS (o : AO) (len cap : Nat)
  | newM (o : AO)

noncomputable def QR.av (r : QR) (id : Nat) : AV := match r with
  | .val v => v
  | .newP _ => .ptr id 0
  | .newS _ len cap => .sl id 0 len cap
  | .newM _ => .mp id

noncomputable def AO.cells? : AO → Option (List AV)
  | .cells cs _ => some cs
  | .cellsx cs _ _ => some cs
  | _ => none

noncomputable def tsize (P : Program) (t : TypeId) : Option Nat := match P.info? t with | some i => some i.size | none => none
noncomputable def tbytes (P : Program) (t : TypeId) : Option Nat := match P.info? t with | some i => some i.bytes | none => none
noncomputable def tagg (P : Program) (t : TypeId) : Option Bool := match P.underlying t with
  | some (.struct _) | some (.array _ _) => some true
  | some _ => some false
  | none => none
noncomputable def tzero (P : Program) (t : TypeId) : Option (List Value) := match P.info? t with
  | some i => match i.zero with | some v => some v.cells.toList | none => none
  | none => none
noncomputable def tzeroV (P : Program) (t : TypeId) : Option Value := match P.info? t with
  | some i => i.zero
  | none => none

/-- what the cells from a place on are -/
noncomputable def hload (h : Heap) (b off n : Nat) : Option (List AV) := match hget h b with
  | some o => match o.cells? with
    | some cs => match dropL off cs with | some r => takeL n r | none => none
    | none => none
  | none => none

noncomputable def aload (P : Program) (h : Heap) (t : TypeId) (a : AV) : Option AV := match a with
  | .ptr b off => match tagg P t, tsize P t with
    | some true, some n => match hload h b off n with | some l => some (.agg l) | none => none
    | some false, some _ => match hget h b with
      | some o => match o.cells? with | some cs => nthL off cs | none => none
      | none => none
    | _, _ => none
  | _ => none

noncomputable def intG : AV → Option Int
  | .g (.int _ n) => some n
  | _ => none

/-- comparison of values that are not both ground -/
noncomputable def eqPtr (P : Program) (h : Heap) (e : TypeId) (a b : AV) : Option Bool := match a with
  | .ptr b1 off => match b with
    | .ptr b' off' => match tsize P e with
      | some (_ + 1) =>
        if b1 == b' then some (off == off')
        else match hget h b1 with
          | some o => match hget h b' with
            | some o' => if o.cells?.isSome && o'.cells?.isSome then some false else none
            | none => none
          | none => none
      | _ => none
    | .g (.pointer none) => some false
    | _ => none
  | .g (.pointer none) => match b with
    | .ptr _ _ => some false
    | _ => none
  | _ => none
noncomputable def isSl : AV → Bool
  | .sl .. | .slx .. => true
  | _ => false
noncomputable def nilSl : AV → Bool
  | .g (.slice none _ _) => true
  | _ => false
noncomputable def isFn : AV → Bool
  | .fn .. | .yld _ => true
  | _ => false
noncomputable def nilFn : AV → Bool
  | .g .nilFunc => true
  | _ => false
noncomputable def isIf : AV → Bool
  | .ifc .. => true
  | _ => false
noncomputable def nilIf : AV → Bool
  | .g .nilIface => true
  | _ => false
noncomputable def isMp : AV → Bool
  | .mp _ => true
  | _ => false
noncomputable def nilMp : AV → Bool
  | .g (.map none) => true
  | _ => false
noncomputable def unlike (p q : Bool) : Option Bool := if p || q then some false else none
noncomputable def aeql (P : Program) (h : Heap) (t : TypeId) (a b : AV) : Option Bool :=
  match P.underlying t with
  | some (.pointer e) => eqPtr P h e a b
  | some (.slice _) => unlike (isSl a && nilSl b) (nilSl a && isSl b)
  | some (.map _ _) => unlike (isMp a && nilMp b) (nilMp a && isMp b)
  | some (.func _ _ _) => unlike (isFn a && nilFn b) (nilFn a && isFn b)
  | some (.interface _) => unlike (isIf a && nilIf b) (nilIf a && isIf b)
  | _ => none

noncomputable def intOp (op : BinOp) (k : IntKind) (m n : Int) : Option AV :=
  match op with
  | .add => some (.g (.int k (wrapF k (m + n))))
  | .sub => some (.g (.int k (wrapF k (m - n))))
  | .lss => some (.g (.bool (decide (m < n))))
  | .leq => some (.g (.bool (decide (m ≤ n))))
  | .gtr => some (.g (.bool (decide (n < m))))
  | .geq => some (.g (.bool (decide (n ≤ m))))
  | .eql => some (.g (.bool (m == n)))
  | .neq => some (.g (.bool (m != n)))
  | _ => none

noncomputable def abinG (P : Program) (op : BinOp) (t : TypeId) (x y : Operand) (u v : Value) : Option AV :=
  match pureRun P (do eqGuard op t x y u v; binOp op t u v) with
  | some r => some (.g r)
  | none => none

noncomputable def abinE (P : Program) (h : Heap) (op : BinOp) (t : TypeId) (a b : AV) : Option AV :=
  match op with
  | .eql => match aeql P h t a b with | some r => some (.g (.bool r)) | none => none
  | .neq => match aeql P h t a b with | some r => some (.g (.bool (!r))) | none => none
  | _ => none

noncomputable def abinS (P : Program) (h : Heap) (op : BinOp) (t : TypeId) (x y : Operand) (a b : AV) : Option AV :=
  match a.toG with
  | some u => match b.toG with
    | some v => abinG P op t x y u v
    | none => abinE P h op t a b
  | none => abinE P h op t a b

noncomputable def asInt? : AV → Option (IntKind × Int)
  | .g v => match v with | .int k n => some (k, n) | _ => none
  | _ => none

noncomputable def abin (P : Program) (h : Heap) (op : BinOp) (t : TypeId) (x y : Operand) (a b : AV) : Option AV :=
  match asInt? a with
  | some (k, m) => match asInt? b with
    | some (k', n) => if k = k' then (match intOp op k m n with
      | some r => some r
      | none => abinS P h op t x y a b) else abinS P h op t x y a b
    | none => abinS P h op t x y a b
  | none => abinS P h op t x y a b

noncomputable def abytes : List AV → Option (List UInt8)
  | [] => some []
  | .g (.int .u8 n) :: l => match abytes l with | some r => some (UInt8.ofNat n.toNat :: r) | none => none
  | _ => none

noncomputable def convB (P : Program) (h : Heap) (s d : TypeId) (b off len : Nat) : Option AV := match P.underlying s with
  | some (.slice e) => match P.underlying d with
    | some .string => match P.underlying e with
      | some (.int .u8) => match hload h b off len with
        | some cs => match abytes cs with | some l => some (.g (.string ⟨l.toArray⟩)) | none => none
        | none => none
      | _ => none
    | _ => none
  | _ => none
noncomputable def convP (P : Program) (h : Heap) (s d : TypeId) (b off : Nat) : Option AV := match P.underlying s with
  | some (.pointer t) => match P.underlying d with
    | some .unsafePointer => match tsize P t with
      | some (_ + 1) => match hget h b with
        | some (.cells cs _) => if off < cs.length then some (.ptr b off) else none
        | _ => none
      | _ => none
    | _ => none
  | some .unsafePointer => match P.underlying d with
    | some (.pointer u) => match tsize P u with
      | some _ => match hget h b with
        | some (.cells cs e) => if liesAt P P.depth e (cs.length / P.cellsOf e) off u 1 then some (.ptr b off) else none
        | _ => none
      | none => none
    | _ => none
  | _ => none
noncomputable def aconv (P : Program) (h : Heap) (s d : TypeId) (a : AV) : Option AV :=
  match a with
  | .g v => match pureRun P (convert s d v) with | some r => some (.g r) | none => none
  | .sl b off len _ => convB P h s d b off len
  | .slx b off _ len => convB P h s d b off len
  | .ptr b off => convP P h s d b off
  | _ => none

/-- the parts of a composite, with their places -/
noncomputable def apart (r : Option (Nat × Nat)) (vs : Option (List AV)) (cs : List AV) : Option (List AV) := match r with
  | none => none
  | some p => match vs with
    | none => none
    | some vs => if vs.length = p.2 then putL p.1 cs vs else none
noncomputable def aparts (place : Nat → Option (Nat × Nat)) (ev : Operand → AV) : List (Nat × Operand) → List AV → Option (List AV)
  | [], cs => some cs
  | x :: rest, cs => match apart (place x.1) (ev x.2).cells cs with
    | some r => aparts place ev rest r
    | none => none

noncomputable def repL {α : Type} : Nat → List α → List α
  | 0, _ => []
  | n + 1, l => l ++ repL n l

noncomputable def aindex (len : Nat) (i : Int) : Option Nat := match i with
  | .ofNat n => if n < len then some n else none
  | .negSucc _ => none
noncomputable def abound (i : Int) (hi : Nat) : Option Nat := match i with
  | .ofNat n => if n ≤ hi then some n else none
  | .negSucc _ => none

noncomputable def fieldOf (P : Program) (s : TypeId) (f : Nat) : Option Nat := match P.underlying s with
  | some (.struct fs) => match fs[f]? with
    | some x => match tsize P x.type with
      | some (_ + 1) => some x.offset
      | _ => none
    | none => none
  | _ => none
noncomputable def fieldsOf (P : Program) (s : TypeId) : Option (List (Nat × Nat)) := match P.underlying s with
  | some (.struct fs) => fs.toList.mapM fun x => (P.info? x.type).map fun i => (x.offset, i.size)
  | _ => none

noncomputable def boundOr (d hi : Nat) (x : Option AV) : Option Nat := match x with
  | none => some d
  | some v => match intG v with
    | some i => abound i hi
    | none => none
noncomputable def slSl (size b off len cap : Nat) (lo hi : Option AV) : Option AV := match boundOr len cap hi with
  | some h => match boundOr 0 h lo with
    | some l => some (.sl b (if cap = l then off else off + l * size) (h - l) (cap - l))
    | none => none
  | none => none
noncomputable def slSlx (size b off k len : Nat) (lo hi : Option AV) : Option AV := match boundOr len len hi with
  | some h => match boundOr 0 h lo with
    | some l => if l < len then some (.slx b (off + l * size) (k + l) (h - l)) else if l = 0 then some (.slx b off k (h - l)) else some .sle
    | none => none
  | none => none
noncomputable def slSle (lo hi : Option AV) : Option AV := match boundOr 0 0 hi with
  | some h => match boundOr 0 h lo with
    | some _ => some .sle
    | none => none
  | none => none
noncomputable def toGO : Option AV → Option (Option Value)
  | none => some none
  | some a => match a.toG with
    | some v => some (some v)
    | none => none
noncomputable def slG (P : Program) (t : TypeId) (v : Value) (lo hi : Option AV) : Option AV := match toGO lo with
  | some lo => match toGO hi with
    | some hi => match pureRun P (Instr.sliceAt t v lo hi none) with
      | some r => some (.g r)
      | none => none
    | none => none
  | none => none
noncomputable def aslice (P : Program) (t : TypeId) (a : AV) (lo hi : Option AV) : Option AV :=
  match a with
  | .sl b off len cap => match P.underlying t with
    | some (.slice e) => match tsize P e with
      | some size => slSl size b off len cap lo hi
      | none => none
    | _ => none
  | .slx b off k len => match P.underlying t with
    | some (.slice e) => match tsize P e with
      | some size => slSlx size b off k len lo hi
      | none => none
    | _ => none
  | .sle => match P.underlying t with
    | some (.slice e) => match tsize P e with
      | some _ => slSle lo hi
      | none => none
    | _ => none
  | .g v => slG P t v lo hi
  | _ => none

noncomputable def keyEq (kind : TypeDesc) (k a : AV) : Option Bool := match k with
  | .g x => match a with
    | .g y => Instr.sameNow kind x y
    | _ => none
  | _ => none
noncomputable def afind (kind : TypeDesc) (k : AV) : List (AV × AV × Nat) → Nat → Option (Option (Nat × AV))
  | [], _ => some none
  | e :: es, i =>
    match keyEq kind k e.1 with
    | some true => some (some (i, e.2.1))
    | some false => afind kind k es (i + 1)
    | none => none
noncomputable def keyKind (d : TypeDesc) : Bool := match d with
  | .int _ => true
  | _ => false
noncomputable def mapOf (h : Heap) : AV → Option (List (AV × AV × Nat))
  | .g (.map none) => some []
  | .mp b => match hget h b with | some (.map es _) => some es | _ => none
  | _ => none
noncomputable def found (z : Value) (ok : Bool) : Option (Option (Nat × AV)) → Option AV
  | some (some x) => some (if ok then .tup [x.2, .g (.bool true)] else x.2)
  | some none => some (if ok then .tup [.g z, .g (.bool false)] else .g z)
  | none => none
noncomputable def alookup (P : Program) (h : Heap) (t : TypeId) (a k : AV) (ok : Bool) : Option AV :=
  match P.underlying t with
  | some (.map kt et) => match P.underlying kt with
    | some kd => match tzeroV P et with
      | some z => if keyKind kd then (match mapOf h a with
          | some es => found z ok (afind kd k es 0)
          | none => none) else none
      | none => none
    | none => none
  | _ => none

noncomputable def modL {α : Type} (f : α → α) : Nat → List α → List α
  | _, [] => []
  | 0, a :: l => f a :: l
  | n + 1, a :: l => a :: modL f n l

noncomputable def putIn (h : Heap) (b : Nat) (es : List (AV × AV × Nat)) (clock : Nat) (k v : AV) : Option (Option (Nat × AV)) → Option Heap
  | some (some x) => some (hset h b (.map (modL (fun e => (k, v, e.2.2)) x.1 es) clock))
  | some none => some (hset h b (.map (es ++ [(k, v, clock)]) (clock + 1)))
  | none => none
noncomputable def amupd (P : Program) (h : Heap) (t : TypeId) (m k v : AV) : Option Heap :=
  match P.underlying t with
  | some (.map kt _) => match P.underlying kt with
    | some kd => if keyKind kd then (match m with
        | .mp b => match hget h b with
          | some (.map es clock) => putIn h b es clock k v (afind kd k es 0)
          | _ => none
        | _ => none) else none
    | none => none
  | _ => none

noncomputable def alen (P : Program) (t : TypeId) (h : Heap) (a : AV) : Option AV := match P.underlying t with
  | some .string => match a with
    | .g (.string s) => some (.g (goInt s.size))
    | _ => none
  | some (.slice _) => match a with
    | .g (.slice _ n _) => some (.g (goInt n))
    | .sl _ _ n _ => some (.g (goInt n))
    | .slx _ _ _ n => some (.g (goInt n))
    | .sle => some (.g (goInt 0))
    | _ => none
  | some (.map _ _) => match a with
    | .g (.map none) => some (.g (goInt 0))
    | .mp b => match hget h b with | some (.map es _) => some (.g (goInt es.length)) | _ => none
    | _ => none
  | _ => none

noncomputable def qv (r : Option AV) : Option QR := match r with | some x => some (.val x) | none => none

noncomputable def qPick (c a b : AV) : Option QR := match c with
  | .g (.bool t) => some (.val (if t then a else b))
  | _ => none
noncomputable def qNil : AV → Option QR
  | .ptr b off => some (.val (.ptr b off))
  | .ifc t u => some (.val (.ifc t u))
  | .fn f c => some (.val (.fn f c))
  | _ => none
noncomputable def qField (P : Program) (s : TypeId) (f : Nat) : AV → Option QR
  | .ptr b off => match fieldOf P s f with
    | some n => some (.val (.ptr b (off + n)))
    | none => none
  | _ => none
noncomputable def qExt (i : Nat) : AV → Option QR
  | .tup vs => qv (nthL i vs)
  | _ => none
noncomputable def qIdxAt (P : Program) (e : TypeId) (b off len : Nat) (i : AV) : Option QR := match intG i with
  | some n => match aindex len n with
    | some m => match tsize P e with
      | some size => some (.val (.ptr b (off + m * size)))
      | none => none
    | none => none
  | none => none
noncomputable def qIdx (P : Program) (t : TypeId) (x i : AV) : Option QR := match P.underlying t with
  | some (.slice e) => match x with
    | .sl b off len _ => qIdxAt P e b off len i
    | .slx b off _ len => qIdxAt P e b off len i
    | _ => none
  | some (.array len e) => match x with
    | .ptr b off => qIdxAt P e b off len i
    | _ => none
  | _ => none
noncomputable def qUn (P : Program) (op : UnOp) (x : AV) : Option QR := match x.toG with
  | some u => match pureRun P (Op.unary op u) with | some r => some (.val (.g r)) | none => none
  | none => none
noncomputable def qIndex (P : Program) (t : TypeId) (x i : AV) : Option QR := match x.toG with
  | some a => match i.toG with
    | some b => match pureRun P (Instr.index t a b) with | some r => some (.val (.g r)) | none => none
    | none => none
  | none => none
noncomputable def qIface (P : Program) (t : TypeId) (x : AV) : Option QR := match P.underlying t with
  | some (.interface _) | none => none
  | some _ => some (.val (.ifc t x))
noncomputable def qFn (fn : Fn) (first cap : Array Operand) (ev : Operand → AV) : Option QR := match fn with
  | .func f => match first.toList with
    | [] => some (.val (.fn f (cap.toList.map ev)))
    | _ => none
  | _ => none
noncomputable def qAlloc (P : Program) (elem : TypeId) : Option QR := match tzero P elem with
  | some z => some (.newP (.cells (z.map .g) elem))
  | none => none
noncomputable def qBox (elem : TypeId) (x : AV) : Option QR := match x.cells with
  | some cs => some (.newP (.cells cs elem))
  | none => none
noncomputable def qAgg (r : Option (List AV)) : Option QR := match r with
  | some cs => some (.val (.agg cs))
  | none => none
noncomputable def qBuild (P : Program) (ev : Operand → AV) (t : TypeId) (parts : List (Nat × Operand)) : Option QR := match tzero P t with
  | some z => match P.underlying t with
    | some (.struct _) => match fieldsOf P t with
      | some fs => qAgg (aparts (fun i => nthL i fs) ev parts (z.map .g))
      | none => none
    | some (.array _ e) => match tsize P e with
      | some size => qAgg (aparts (fun i => some (i * size, size)) ev parts (z.map .g))
      | none => none
    | _ => none
  | none => none
noncomputable def qSliceOf (e : TypeId) (len : Nat) (r : Option (List AV)) : Option QR := match r with
  | some cs => some (.newS (.cells cs e) len len)
  | none => none
noncomputable def qBuildS (P : Program) (ev : Operand → AV) (t : TypeId) (len : Nat) (parts : List (Nat × Operand)) : Option QR := match P.underlying t with
  | some (.slice e) => match tsize P e with
    | some size => match tzero P e with
      | some z => if decide (len * size ≤ 4096) && z.length == size then qSliceOf e len (aparts (fun i => some (i * size, size)) ev parts (repL len (z.map .g))) else none
      | none => none
    | none => none
  | _ => none
noncomputable def qMap (P : Program) (t : TypeId) (r : Option AV) : Option QR := match r with
  | none => some (.newM (.map [] 0))
  | some v => match P.underlying t with
    | some (.map _ _) => match asInt? v with
      | some _ => some (.newM (.map [] 0))
      | none => none
    | _ => none
noncomputable def qMkS (P : Program) (e : TypeId) (l c : Nat) : Option QR := match tsize P e with
  | some size => match tbytes P e with
    | some bytes => match tzero P e with
      | some z => if decide (l ≤ c) && decide (c ≤ 65536) && decide (bytes ≤ 65536) && z.length == size then some (.newS (.cells (repL c (z.map .g)) e) l c) else none
      | none => none
    | none => none
  | none => none
noncomputable def natG (a : AV) : Option Nat := match intG a with
  | some (.ofNat n) => some n
  | _ => none
noncomputable def qMakeS (P : Program) (t : TypeId) (l c : AV) : Option QR := match P.underlying t with
  | some (.slice e) => match natG l with
    | some l => match natG c with
      | some c => qMkS P e l c
      | none => none
    | none => none
  | _ => none
noncomputable def qCap : AV → Option QR
  | .sl _ _ _ c => some (.val (.g (goInt c)))
  | .g (.slice _ _ c) => some (.val (.g (goInt c)))
  | _ => none
noncomputable def qMin (P : Program) (x y : AV) : Option QR := match x.toG with
  | some a => match y.toG with
    | some b => match pureRun P (Builtin.min2 a b) with | some r => some (.val (.g r)) | none => none
    | none => none
  | none => none
noncomputable def qCall (P : Program) (h : Heap) (ev : Operand → AV) (c : Call) : Option QR := match c.callee with
  | .builtin b => match c.args.toList with
    | [x] => match c.argTypes.toList with
      | [t] => match b with
        | .len => qv (alen P t h (ev x))
        | .cap => match P.underlying t with
          | some (.slice _) => qCap (ev x)
          | _ => none
        | _ => none
      | _ => none
    | [x, y] => match b with
      | .min => qMin P (ev x) (ev y)
      | _ => none
    | _ => none
  | _ => none

noncomputable def qSlice (P : Program) (t : TypeId) (x : AV) (lo hi : Option AV) (mx : Option Operand) : Option QR := match mx with
  | none => qv (aslice P t x lo hi)
  | some _ => none

/-- The operations that turn nothing. -/
noncomputable def aquiet (P : Program) (h : Heap) (ev : Operand → AV) (o : Oper) : Option QR :=
  (match o.op with
  | .move x => fun _ _ ev => some (.val (ev x))
  | .pick c a b => fun _ _ ev => qPick (ev c) (ev a) (ev b)
  | .load t a => fun P h ev => qv (aload P h t (ev a))
  | .nilCheck x => fun _ _ ev => qNil (ev x)
  | .fieldAddr s x f => fun P _ ev => qField P s f (ev x)
  | .binOp op t x y _ => fun P h ev => qv (abin P h op t x y (ev x) (ev y))
  | .extract x i => fun _ _ ev => qExt i (ev x)
  | .indexAddr t x i => fun P _ ev => qIdx P t (ev x) (ev i)
  | .unOp op _ x => fun P _ ev => qUn P op (ev x)
  | .convert s d x => fun P h ev => qv (aconv P h s d (ev x))
  | .index t x i => fun P _ ev => qIndex P t (ev x) (ev i)
  | .slice t x lo hi mx => fun P _ ev => qSlice P t (ev x) (lo.map ev) (hi.map ev) mx
  | .makeInterface t x => fun P _ ev => qIface P t (ev x)
  | .makeFunc fn first cap => fun _ _ ev => qFn fn first cap ev
  | .lookup t x i ok => fun P h ev => qv (alookup P h t (ev x) (ev i) ok)
  | .alloc elem => fun P _ _ => qAlloc P elem
  | .box elem x => fun _ _ ev => qBox elem (ev x)
  | .build t parts => fun P _ ev => qBuild P ev t parts.toList
  | .buildSlice t len parts => fun P _ ev => qBuildS P ev t len parts.toList
  | .makeMap t r => fun P _ ev => qMap P t (r.map ev)
  | .makeSlice t l c => fun P _ ev => qMakeS P t (ev l) (ev c)
  | .call c => fun P h ev => qCall P h ev c
  | _ => fun _ _ _ => none : Program → Heap → (Operand → AV) → Option QR) P h ev

/-- is an operation one of those that must come in the edges' order? -/
noncomputable def effCall (c : Call) : Bool := match c.callee with
  | .builtin .len | .builtin .cap | .builtin .min => false
  | _ => true
noncomputable def effectful : Op → Bool
  | .assign _ | .store .. | .mapUpdate .. | .insert .. | .defer _ => true
  | .call c => effCall c
  | _ => false

inductive Ext where
  | cmp | load (t : Extern.Atomic.T) | store | cas (t : Extern.Atomic.T) | add (k : IntKind) | mark1 | mark0

inductive ER where
  | val (v : AV) (h : Heap)
  | newx (o : AO) (len : Nat) (h : Heap)      -- a new inexact block
  | enter (f : FuncId) (args : List AV)
  | defer (d : AD)
  | round (l : Nat) (args : List AV)

noncomputable def hstore (h : Heap) (b off : Nat) (vs : List AV) : Option Heap := match hget h b with
  | some (.cells cs e) => match putL off cs vs with | some r => some (hset h b (.cells r e)) | none => none
  | some (.cellsx cs e es) => match putL off cs vs with | some r => some (hset h b (.cellsx r e es)) | none => none
  | _ => none

/-- what is appended, as cells -/
noncomputable def acellsOf (h : Heap) (size : Nat) : AV → Option (Nat × List AV)
  | .g (.slice none n _) => if n = 0 then some (0, []) else none
  | .sl b off len _ => match hload h b off (len * size) with | some l => some (len, l) | none => none
  | .slx b off _ len => match hload h b off (len * size) with | some l => some (len, l) | none => none
  | .sle => some (0, [])
  | _ => none

/-- what is appended, by the second argument's type: cells, or so many zeros -/
noncomputable def anew (P : Program) (h : Heap) (size : Nat) (z : List AV) (t' : TypeId) (x : AV) : Option (Nat × List AV) :=
  match P.underlying t' with
  | some (.int _) => match natG x with
    | some n => some (n, repL n z)
    | none => none
  | some (.slice _) => acellsOf h size x
  | _ => none
noncomputable def apNone (h : Heap) (s : AV) : Option ER := match s with
  | .sl b off len cap => if len ≤ cap then some (.val (.sl b off len cap) h) else none
  | .slx b off k len => some (.val (.slx b off k len) h)
  | .g (.slice none 0 0) => some (.val s h)
  | _ => none
noncomputable def apSl (h : Heap) (e : TypeId) (size b off len cap n : Nat) (new : List AV) : Option ER :=
  if len + n ≤ cap then (if new.all AV.isCell then (match hstore h b (off + len * size) new with
    | some h' => some (.val (.sl b off (len + n) cap) h')
    | none => none) else none)
  else if 65536 ≤ len + n then none else match hload h b off (len * size) with
    | some old => some (.newx (.cellsx (old ++ new) e size) (len + n) h)
    | none => none
noncomputable def apSlx (h : Heap) (e : TypeId) (size b off k len n : Nat) (new : List AV) : Option ER := match hget h b with
  | some (.cellsx cs e' es) =>
    if es = size ∧ off = k * size ∧ e' = e then
      if !new.all AV.isCell then none else
      if off + (len + n) * size ≤ cs.length then (match hstore h b (off + len * size) new with
        | some h' => some (.val (.slx b off k (len + n)) h')
        | none => none)
      else if cs.length = off + len * size ∧ k = 0 ∧ len + n < 65536 then some (.newx (.cellsx (cs ++ new) e size) (len + n) (hset h b .dead))
      else none
    else none
  | _ => none
noncomputable def apTo (h : Heap) (e : TypeId) (size n : Nat) (new : List AV) (s : AV) : Option ER :=
  if n = 0 then apNone h s else match s with
  | .g (.slice none 0 0) => some (.newx (.cellsx new e size) n h)
  | .sl b off len cap => apSl h e size b off len cap n new
  | .slx b off k len => apSlx h e size b off k len n new
  | _ => none
noncomputable def apOk (size bytes n : Nat) (z : List Value) : Bool := decide (0 < size) && decide (0 < bytes) && decide (bytes < 65536) && decide (n < 65536) && z.length == size
noncomputable def apAt (P : Program) (h : Heap) (e t' : TypeId) (s x : AV) : Option ER := match tsize P e with
  | some size => match tbytes P e with
    | some bytes => match tzero P e with
      | some z => match anew P h size (z.map .g) t' x with
        | some p => if apOk size bytes p.1 z then apTo h e size p.1 p.2 s else none
        | none => none
      | none => none
    | none => none
  | none => none
noncomputable def aappend (P : Program) (h : Heap) (types : Array TypeId) (s x : AV) : Option ER :=
  match types.toList with
  | [t, t'] => match P.underlying t with
    | some (.slice e) => apAt P h e t' s x
    | _ => none
  | _ => none

noncomputable def eVal (r : Option Heap) : Option ER := match r with
  | some h' => some (.val (.g undef) h')
  | none => none
noncomputable def isU (v : AV) : Bool := match v with
  | .g (.pointer none) => true
  | .ptr _ _ => true
  | _ => false
noncomputable def xLoad (h : Heap) (t : Extern.Atomic.T) (b off : Nat) : Option ER := match hload h b off 1 with
  | some [v] => match t with
    | .int k => match asInt? v with
      | some (k', _) => if k = k' then some (.val v h) else none
      | none => none
    | .ptr => if isU v then some (.val v h) else none
  | _ => none
noncomputable def xStore (h : Heap) (b off : Nat) (v : AV) : Option ER := if v.isCell then eVal (hstore h b off [v]) else none
noncomputable def casTo (h : Heap) (b off : Nat) (k : IntKind) (z x y : Int) : Option ER :=
  if z = x then (match hstore h b off [.g (.int k y)] with
    | some h' => some (.val (.g (.bool true)) h')
    | none => none)
  else some (.val (.g (.bool false)) h)
noncomputable def xCas (h : Heap) (t : Extern.Atomic.T) (b off : Nat) (x y : AV) : Option ER := match t with
  | .int k' => match hload h b off 1 with
    | some [v] => match asInt? v with
      | some (k, z) => match asInt? x with
        | some (k1, x) => match asInt? y with
          | some (k2, y) => if k = k' ∧ k1 = k' ∧ k2 = k' then casTo h b off k' z x y else none
          | none => none
        | none => none
      | none => none
    | _ => none
  | _ => none
noncomputable def xAdd (h : Heap) (k : IntKind) (b off : Nat) (y : AV) : Option ER := match hload h b off 1 with
  | some [v] => match asInt? v with
    | some (k2, x) => match asInt? y with
      | some (k1, y) => if k2 = k ∧ k1 = k then (match hstore h b off [.g (.int k (wrapF k (x + y)))] with
          | some h' => some (.val (.g (.int k (wrapF k (x + y)))) h')
          | none => none) else none
      | none => none
    | none => none
  | _ => none
noncomputable def isPtr (v : AV) : Bool := match v with
  | .g (.pointer (some _)) => true
  | .ptr _ _ => true
  | _ => false
noncomputable def acallX (h : Heap) (e : Ext) (args : List AV) : Option ER := match e with
  | .cmp => match args with
    | [.g (.string a), .g (.string b)] => some (.val (.g (goInt (Extern.BytealgCompare.cmp a b))) h)
    | _ => none
  | .load t => match args with
    | [.ptr b off] => xLoad h t b off
    | _ => none
  | .store => match args with
    | [.ptr b off, v] => xStore h b off v
    | _ => none
  | .cas t => match args with
    | [.ptr b off, x, y] => xCas h t b off x y
    | _ => none
  | .add k => match args with
    | [.ptr b off, y] => xAdd h k b off y
    | _ => none
  | .mark1 => match args with
    | [v] => if isPtr v then some (.val (.g undef) h) else none
    | _ => none
  | .mark0 => match args with
    | [] => some (.val (.g undef) h)
    | _ => none
noncomputable def acallF (P : Program) (xt : FuncId → Option Ext) (h : Heap) (f : FuncId) (args : List AV) : Option ER :=
  match xt f with
  | none => match P.funcs[f]? with
    | some fn => match fn.body with
      | some _ => some (.enter f args)
      | none => none
    | none => none
  | some e => acallX h e args

/-- The function that an invoke comes to. -/
noncomputable def ameth (P : Program) (t : TypeId) (name : String) : Option FuncId := match P.info? t with
  | some i => match i.methods.toList.find? (·.name == name) with
    | some m => if m.path.isEmpty then (match m.func with
      | some (f, p) => match P.underlying t with
        | some (.pointer _) => if p then some f else none
        | some _ => if p then none else some f
        | none => none
      | none => none) else none
    | none => none
  | none => none

noncomputable def acallV (P : Program) (xt : FuncId → Option Ext) (h : Heap) (f : AV) (args : List AV) : Option ER := match f with
  | .fn f cap => acallF P xt h f (args ++ cap)
  | .yld l => match hget h l with
    | some (.loop r) => if r.params.length = args.length then some (.round l args) else none
    | _ => none
  | _ => none

noncomputable def eStore (P : Program) (h : Heap) (t : TypeId) (a x : AV) : Option ER := match a with
  | .ptr b off => match x.cells with
    | some cs => match tsize P t with
      | some n => if cs.length == n && cs.all AV.isCell then eVal (hstore h b off cs) else none
      | none => none
    | none => none
  | _ => none
noncomputable def eInvoke (P : Program) (xt : FuncId → Option Ext) (h : Heap) (name : String) (args : List AV) : AV → Option ER
  | .ifc t v => match ameth P t name with
    | some f => acallF P xt h f (v :: args)
    | none => none
  | _ => none
noncomputable def eCall (P : Program) (xt : FuncId → Option Ext) (h : Heap) (ev : Operand → AV) (c : Call) : Option ER := match c.callee with
  | .value f => acallV P xt h (ev f) (c.args.toList.map ev)
  | .invoke r name => eInvoke P xt h name (c.args.toList.map ev) (ev r)
  | .builtin b => match b with
    | .append => match c.args.toList with
      | [s, x] => aappend P h c.argTypes (ev s) (ev x)
      | _ => none
    | _ => none
noncomputable def eDefer (args : List AV) : AV → Option ER
  | .fn f cap => some (.defer (.fn f cap args))
  | _ => none
noncomputable def eDeferC (ev : Operand → AV) (c : Call) : Option ER := match c.callee with
  | .value f => eDefer (c.args.toList.map ev) (ev f)
  | _ => none
noncomputable def aeff (P : Program) (xt : FuncId → Option Ext) (h : Heap) (ev : Operand → AV) (o : Oper) : Option ER :=
  (match o.op with
  | .assign x => fun _ _ h ev => some (.val (ev x) h)
  | .store t a x => fun P _ h ev => eStore P h t (ev a) (ev x)
  | .mapUpdate t m k x => fun P _ h ev => eVal (amupd P h t (ev m) (ev k) (ev x))
  | .insert t m k x => fun P _ h ev => eVal (amupd P h t (ev m) (ev k) (ev x))
  | .call c => fun P xt h ev => eCall P xt h ev c
  | .defer c => fun _ _ _ ev => eDeferC ev c
  | _ => fun _ _ _ _ => none : Program → (FuncId → Option Ext) → Heap → (Operand → AV) → Option ER) P xt h ev

/-- What is known of a region's operation. -/
structure RInfo where
  i : Nat
  o : Oper
  anc : Nat
  eff : Bool

noncomputable def ancs : List Oper → Nat → List Nat → List RInfo
  | [], _, _ => []
  | o :: l, i, acc =>
    let a := o.after.toList.foldl (fun s e => if Region.binds .any e then s ||| 2 ^ e.on ||| (match nthL e.on acc with | some x => x | none => 0) else s) 0
    ⟨i, o, a, effectful o.op⟩ :: ancs l (i + 1) (acc ++ [a])

noncomputable def regOk (ops : Array Oper) (A : List RInfo) : Bool :=
  A.all (fun x => x.o.after.toList.all (fun e => !Region.binds .any e || decide (e.on < x.i))) &&
  A.all (fun x => !x.eff || A.all fun y => !y.eff || !decide (x.i < y.i) || y.anc.testBit x.i) &&
  A.all (fun x => x.eff || match x.o.dst with
    | none => true
    | some d => !(x.o.looksAt ops).contains d && A.all fun y => y.i == x.i || !((y.o.looksAt ops).contains d || y.o.dst == some d) || y.anc.testBit x.i)

inductive Phase where
  | unsat | sat | wait

structure AReg where
  phase : Phase
  infos : List RInfo      -- the quiet ones
  effs : List RInfo       -- the effects that are still to come
  last : Option RInfo
  base : Nat
  ops : Array Oper

inductive AItem where
  | code (c : Code)
  | inBlock (id : Nat)
  | inLoop (body : Code)
  | ops (l : List Oper) (ops : Array Oper)
  | reg (r : AReg)
  | inRange (l : Nat)
  | endRange (l : Nat)
  | beginRound

structure AFrame where
  fn : FuncId
  slots : BT AV
  size : Nat
  todo : List AItem
  defers : List AD
  ret : Bool
  deferred : Bool
  roundOf : Option Nat

structure AM where
  fr : AFrame
  callers : List AFrame
  heap : Heap
  next : Nat

noncomputable def AFrame.wTodo (fr : AFrame) (t : List AItem) : AFrame := match fr with
  | ⟨a, b, c, _, e, f, g, h⟩ => ⟨a, b, c, t, e, f, g, h⟩
noncomputable def AFrame.wSlots (fr : AFrame) (t : BT AV) : AFrame := match fr with
  | ⟨a, _, c, d, e, f, g, h⟩ => ⟨a, t, c, d, e, f, g, h⟩
noncomputable def AFrame.wDefers (fr : AFrame) (t : List AD) : AFrame := match fr with
  | ⟨a, b, c, d, _, f, g, h⟩ => ⟨a, b, c, d, t, f, g, h⟩
noncomputable def AFrame.wRet (fr : AFrame) : AFrame := match fr with
  | ⟨a, b, c, d, e, _, g, h⟩ => ⟨a, b, c, d, e, true, g, h⟩
noncomputable def AM.wFr (m : AM) (fr : AFrame) : AM := match m with
  | ⟨_, cs, h, nx⟩ => ⟨fr, cs, h, nx⟩
noncomputable def AM.wFrH (m : AM) (fr : AFrame) (h : Heap) : AM := match m with
  | ⟨_, cs, _, nx⟩ => ⟨fr, cs, h, nx⟩
noncomputable def AM.wFrCs (m : AM) (fr : AFrame) (cs : List AFrame) : AM := match m with
  | ⟨_, _, h, nx⟩ => ⟨fr, cs, h, nx⟩
noncomputable def AM.wAll (m : AM) (fr : AFrame) (h : Heap) (k : Nat) : AM := match m with
  | ⟨_, cs, _, nx⟩ => ⟨fr, cs, h, nx + k⟩
noncomputable def AReg.wPhase (r : AReg) (p : Phase) : AReg := match r with
  | ⟨_, a, b, c, d, e⟩ => ⟨p, a, b, c, d, e⟩
noncomputable def AReg.after (r : AReg) (rest : List RInfo) (e : RInfo) : AReg := match r with
  | ⟨_, a, _, _, d, f⟩ => ⟨.unsat, a, rest, some e, d, f⟩
noncomputable def ALoop.wState (l : ALoop) (s : LoopState) (p : Option Code) : ALoop := match l with
  | ⟨_, _, a, b, c, d, e, f, g⟩ => ⟨s, p, a, b, c, d, e, f, g⟩

noncomputable def aev (s : BT AV) : Operand → AV
  | .tmp t => slot s t
  | .const v => .g v
  | .global g => .g (.pointer (some ⟨g, 0, none⟩))
  | .func f => .fn f []

noncomputable def AFrame.put (fr : AFrame) (d : Option Tmp) (v : AV) : Option AFrame := match d with
  | none => some fr
  | some d => if d < fr.size then some (fr.wSlots (sset fr.slots d v)) else none

/-- guards: some true: wanted -/
noncomputable def awanted (ops : Array Oper) (s : BT AV) (o : Oper) : Option Bool := match o.guard with
  | none => some true
  | some (j, want) => match ops[j]? with
    | some o' => match o'.dst with
      | some d => match slot s d with
        | .g (.bool b) => some (b == want)
        | .g (.tuple _) => some false
        | _ => none
      | none => none
    | none => none

mutual
noncomputable def veq : Value → Value → Bool
  | .bool a, .bool b => a == b
  | .int k a, .int k' b => k == k' && a == b
  | .string a, .string b => a.data.toList == b.data.toList
  | .pointer none, .pointer none => true
  | .pointer (some a), .pointer (some b) => a == b
  | .slice none a b, .slice none c d => a == c && b == d
  | .map none, .map none => true
  | .nilFunc, .nilFunc => true
  | .nilIface, .nilIface => true
  | .func (.func f) ⟨[]⟩ ⟨[]⟩, .func (.func g) ⟨[]⟩ ⟨[]⟩ => f == g
  | .tuple ⟨[]⟩, .tuple ⟨[]⟩ => true
  | .agg ⟨a⟩, .agg ⟨b⟩ => veqs a b
  | _, _ => false
noncomputable def veqs : List Value → List Value → Bool
  | [], [] => true
  | a :: as, b :: bs => veq a b && veqs as bs
  | _, _ => false
end

mutual
noncomputable def avEq : AV → AV → Bool
  | .g a, .g b => veq a b
  | .ptr a b, .ptr c d => a == c && b == d
  | .sl a b c d, .sl a' b' c' d' => a == a' && b == b' && c == c' && d == d'
  | .slx a b c d, .slx a' b' c' d' => a == a' && b == b' && c == c' && d == d'
  | .sle, .sle => true
  | .mp a, .mp b => a == b
  | .yld a, .yld b => a == b
  | .fn f c, .fn g d => f == g && avsEq c d
  | .ifc t v, .ifc u w => t == u && avEq v w
  | .agg a, .agg b => avsEq a b
  | .tup a, .tup b => avsEq a b
  | _, _ => false
noncomputable def avsEq : List AV → List AV → Bool
  | [], [] => true
  | a :: as, b :: bs => avEq a b && avsEq as bs
  | _, _ => false
end

noncomputable def aoEq : AO → AO → Bool
  | .cells a e, .cells b f => e == f && avsEq a b
  | .map [] 0, .map [] 0 => true
  | _, _ => false

noncomputable def QR.obj : QR → Option AO
  | .val _ => none
  | .newP o | .newS o _ _ | .newM o => some o

/-- is a quiet operation ready: are all effects ahead of it through? -/
noncomputable def readyIn (rem : Nat) (x : RInfo) : Bool := (x.anc &&& rem) == 0
noncomputable def pastOf (last : Option RInfo) (x : RInfo) : Bool := match last with
  | none => false
  | some e => e.anc.testBit x.i
noncomputable def newOf (last : Option RInfo) (x : RInfo) : Bool := match last with
  | none => true
  | some e => x.anc.testBit e.i
noncomputable def maskOf : List RInfo → Nat
  | [] => 0
  | x :: l => 2 ^ x.i ||| maskOf l

/-- evaluate the operations that are new -/
noncomputable def saturate (P : Program) (r : AReg) (rem : Nat) : List RInfo → AFrame → Heap → Option (AFrame × Heap)
  | [], fr, h => some (fr, h)
  | x :: l, fr, h =>
    if readyIn rem x && newOf r.last x then
      match awanted r.ops fr.slots x.o with
      | some true => match aquiet P h (aev fr.slots) x.o with
        | some q => match fr.put x.o.dst (q.av (r.base + x.i)) with
          | some fr' => saturate P r rem l fr' (match q.obj with | some o => hset h (r.base + x.i) o | none => h)
          | none => none
        | none => none
      | some false => match fr.put x.o.dst (.g undef) with
        | some fr' => saturate P r rem l fr' h
        | none => none
      | none => none
    else saturate P r rem l fr h

noncomputable def checkOne (P : Program) (r : AReg) (s : BT AV) (h : Heap) (x : RInfo) : Bool :=
  match awanted r.ops s x.o with
  | some true => match aquiet P h (aev s) x.o with
    | some q => (match x.o.dst with | some d => avEq (slot s d) (q.av (r.base + x.i)) | none => true) &&
      (match q.obj with
        | some o => match hget h (r.base + x.i) with | some o' => aoEq o' o | none => false
        | none => true)
    | none => false
  | some false => match x.o.dst with | some d => avEq (slot s d) (.g undef) | none => true
  | none => false

noncomputable def checkAll (P : Program) (r : AReg) (rem : Nat) (s : BT AV) (h : Heap) : List RInfo → Bool
  | [] => true
  | x :: l => (!(readyIn rem x) || pastOf r.last x || checkOne P r s h x) && checkAll P r rem s h l

noncomputable def AFrame.finish (fr : AFrame) (v : AV) : Option AFrame := match fr.todo with
  | .ops (o :: l) a :: k => match fr.put o.dst v with
    | some fr' => some (fr'.wTodo (.ops l a :: k))
    | none => none
  | .reg r :: k => match r.phase, r.effs with
    | .wait, e :: rest => match fr.put e.o.dst v with
      | some fr' => some (fr'.wTodo (.reg (r.after rest e) :: k))
      | none => none
    | _, _ => none
  | .inRange l :: k => some (fr.wTodo (.endRange l :: k))
  | _ => none

noncomputable def putArgs : List AV → Nat → BT AV → BT AV
  | [], _, t => t
  | v :: l, i, t => putArgs l (i + 1) (sset t i v)

noncomputable def AFrame.enter (P : Program) (f : FuncId) (args : List AV) (deferred : Bool) : Option AFrame :=
  match P.funcs[f]? with
  | some fn => match fn.body with
    | some c => if args.length ≤ fn.ntmps then some { fn := f, slots := putArgs args 0 .nil, size := fn.ntmps, todo := [.code c], defers := [], ret := false, deferred, roundOf := none } else none
    | none => none
  | none => none

noncomputable def putParams : List Tmp → List AV → Nat → BT AV → Option (BT AV)
  | [], [], _, t => some t
  | p :: ps, v :: vs, size, t => if p < size then putParams ps vs size (sset t p v) else none
  | _, _, _, _ => none

noncomputable def aexit (id : Nat) : List AItem → Option (List AItem)
  | .inBlock id' :: k => if id' == id then some k else aexit id k
  | _ :: k => aexit id k
  | [] => none

/-- an operation's effect, upon the machine; 'wait' is the frame as it waits for a call -/
noncomputable def upon (P : Program) (m : AM) (wait : AFrame) : ER → Option AM
  | .val v h => match wait.finish v with
    | some fr => some (m.wFrH fr h)
    | none => none
  | .newx o len h => match wait.finish (.slx m.next 0 0 len) with
    | some fr => some (m.wAll fr (hset h m.next o) 1)
    | none => none
  | .enter f args => match AFrame.enter P f args false with
    | some fr => some (m.wFrCs fr (wait :: m.callers))
    | none => none
  | .defer d => match wait.roundOf with
    | none => match (wait.wDefers (d :: wait.defers)).finish (.g undef) with
      | some fr => some (m.wFr fr)
      | none => none
    | some _ => none
  | .round l args => match hget m.heap l with
    | some (.loop r) => match putParams r.params args r.size r.slots with
      | some slots => some { m with
          fr := { fn := r.fn, slots, size := r.size, todo := [.code r.assign, .beginRound, .code r.body], defers := [], ret := false, deferred := false, roundOf := some l },
          callers := wait :: m.callers }
      | none => none
    | _ => none

noncomputable def aresults (P : Program) (h : Heap) (s : BT AV) : List ResultVar → Option (List AV)
  | [] => some []
  | .tmp t :: l => match aresults P h s l with | some r => some (slot s t :: r) | none => none
  | .cell a t :: l => match aload P h t (slot s a) with
    | some v => match aresults P h s l with | some r => some (v :: r) | none => none
    | none => none

noncomputable def one (vs : List AV) : AV := match vs with
  | [v] => v
  | vs => .tup vs

/-- the end of a round: leave with a jump -/
noncomputable def endRound (m : AM) (l : Nat) (jump : Option Code) : Option AM :=
  match hget m.heap l, m.callers with
  | some (.loop r), c :: cs => match c.finish (.g (.bool jump.isNone)) with
    | some fr => some ((m.wFrCs fr cs).wFrH fr (hset m.heap l (.loop (r.wState (if jump.isNone then .ready else .done) jump))))
    | none => none
  | _, _ => none

noncomputable def leave (m : AM) (jump : Option Code) : Option AM := match m.fr.roundOf with
  | none => match jump with
    | none | some .ret => some (m.wFr m.fr.wRet)
    | _ => none
  | some l => if m.fr.deferred then none else endRound m l jump

noncomputable def isReg : List AItem → Bool
  | .reg _ :: _ => true
  | _ => false
noncomputable def returnTo (m : AM) (v : AV) (c : AFrame) (cs : List AFrame) : Option AM :=
  if m.fr.deferred then (if c.ret then some (m.wFrCs c cs) else none)
  else match c.finish v with
    | some fr => some (m.wFrCs fr cs)
    | none => none
noncomputable def areturn (P : Program) (m : AM) : Option AM :=
  match m.fr.defers with
  | .coll b :: ds => match hget m.heap b with
    | some (.defs (some calls)) => some (m.wFrH (m.fr.wDefers (calls ++ ds)) (hset m.heap b (.defs none)))
    | _ => none
  | .fn f cap args :: ds => match AFrame.enter P f (args ++ cap) true with
    | some fr => some (m.wFrCs fr (m.fr.wDefers ds :: m.callers))
    | none => none
  | [] => match m.callers with
    | [] => none
    | c :: cs => if isReg m.fr.todo then none else match P.funcs[m.fr.fn]? with
      | some fn => match aresults P m.heap m.fr.slots fn.results.toList with
        | some vs => returnTo m (one vs) c cs
        | none => none
      | none => none

noncomputable def opSkip (m : AM) (o : Oper) (k : List AItem) : Option AM := match m.fr.put o.dst (.g undef) with
  | some fr => some (m.wFr (fr.wTodo k))
  | none => none
noncomputable def opQuiet (m : AM) (o : Oper) (k : List AItem) : Option QR → Option AM
  | some q => match q.obj with
    | none => match m.fr.put o.dst (q.av 0) with
      | some fr => some (m.wFr (fr.wTodo k))
      | none => none
    | some ob => match m.fr.put o.dst (q.av m.next) with
      | some fr => some (m.wAll (fr.wTodo k) (hset m.heap m.next ob) 1)
      | none => none
  | none => none
noncomputable def opEff (P : Program) (m : AM) (wait : AFrame) : Option ER → Option AM
  | some r => upon P m wait r
  | none => none
noncomputable def aop (P : Program) (xt : FuncId → Option Ext) (m : AM) (o : Oper) (k : List AItem) (ops : Array Oper) : Option AM :=
  match awanted ops m.fr.slots o with
  | some w => if w then (if effectful o.op then opEff P m m.fr (aeff P xt m.heap (aev m.fr.slots) o) else opQuiet m o k (aquiet P m.heap (aev m.fr.slots) o))
    else opSkip m o k
  | none => none

noncomputable def to (m : AM) (todo : List AItem) : Option AM := some (m.wFr (m.fr.wTodo todo))

noncomputable def stepCond (m : AM) (thn els : Code) (k : List AItem) : AV → Option AM
  | .g (.bool b) => to m (.code (if b then thn else els) :: k)
  | _ => none
noncomputable def stepExit (m : AM) (id : Nat) (k : List AItem) : Option AM := match aexit id k with
  | some k' => to m k'
  | none => leave m (some (.exit id))
noncomputable def dstOk (n : Nat) : List RInfo → Bool
  | [] => true
  | x :: l => (match x.o.dst with | some d => decide (d < n) | none => true) && dstOk n l
noncomputable def stepDraw (m : AM) (ops : Array Oper) (k : List AItem) (is : List RInfo) : Option AM :=
  if regOk ops is && dstOk m.fr.size is then some (m.wAll (m.fr.wTodo (.reg { phase := .unsat, infos := is.filter (!·.eff), effs := is.filter (·.eff), last := none, base := m.next, ops } :: k)) m.heap ops.size)
  else none
noncomputable def loopOf (fr : AFrame) (params : List Tmp) (assign body : Code) (defers : Nat) : ALoop :=
  { state := .ready, pending := none, fn := fr.fn, slots := fr.slots, size := fr.size, params, assign, body, defers }
noncomputable def stepRange (P : Program) (xt : FuncId → Option Ext) (m : AM) (f : Operand) (params : List Tmp) (assign body : Code) (k : List AItem) : Option AM :=
  match m.fr.roundOf with
  | none =>
    let h := hset (hset m.heap m.next (.defs (some []))) (m.next + 1) (.loop (loopOf m.fr params assign body m.next))
    opEff P (m.wAll m.fr h 2) ((m.fr.wTodo (.inRange (m.next + 1) :: k)).wDefers (.coll m.next :: m.fr.defers)) (acallV P xt h (aev m.fr.slots f) [.yld (m.next + 1)])
  | some o => match hget m.heap o with
    | some (.loop lo) =>
      let h := hset m.heap m.next (.loop (loopOf m.fr params assign body lo.defers))
      opEff P (m.wAll m.fr h 1) (m.fr.wTodo (.inRange m.next :: k)) (acallV P xt h (aev m.fr.slots f) [.yld m.next])
    | _ => none
noncomputable def stepRegion (m : AM) (ops : Array Oper) (draw : Bool) (k : List AItem) : Option AM :=
  if draw then stepDraw m ops k (ancs ops.toList 0 []) else to m (.ops ops.toList ops :: k)
noncomputable def stepCode (P : Program) (xt : FuncId → Option Ext) (m : AM) (c : Code) (k : List AItem) : Option AM :=
  (match c with
  | .ret => fun _ _ m _ => leave m (some .ret)
  | .skip => fun _ _ m k => to m k
  | .seq a b => fun _ _ m k => to m (.code a :: .code b :: k)
  | .cond c thn els => fun _ _ m k => stepCond m thn els k (aev m.fr.slots c)
  | .block id body => fun _ _ m k => to m (.code body :: .inBlock id :: k)
  | .loop body => fun _ _ m k => to m (.code body :: .inLoop body :: k)
  | .exit id => fun _ _ m k => stepExit m id k
  | .region _ ops draw => fun _ _ m k => stepRegion m ops draw k
  | .rangeFunc f params assign body => fun P xt m k => stepRange P xt m f params.toList assign body k
  | _ => fun _ _ _ _ => none : Program → (FuncId → Option Ext) → AM → List AItem → Option AM) P xt m k
noncomputable def stepSat (P : Program) (m : AM) (r : AReg) (k : List AItem) : Option (AFrame × Heap) → Option AM
  | some (fr', h) => if checkAll P r (maskOf r.effs) fr'.slots h r.infos then some (m.wFrH (fr'.wTodo (.reg (r.wPhase .sat) :: k)) h) else none
  | none => none
noncomputable def stepRegEff (P : Program) (xt : FuncId → Option Ext) (m : AM) (r : AReg) (k : List AItem) (e : RInfo) (rest : List RInfo) : Option AM :=
  match awanted r.ops m.fr.slots e.o with
  | some w => if w then opEff P m (m.fr.wTodo (.reg (r.wPhase .wait) :: k)) (aeff P xt m.heap (aev m.fr.slots) e.o)
    else opSkip m e.o (.reg (r.after rest e) :: k)
  | none => none
noncomputable def stepReg (P : Program) (xt : FuncId → Option Ext) (m : AM) (r : AReg) (k : List AItem) : Option AM := match r.phase with
  | .unsat => stepSat P m r k (saturate P r (maskOf r.effs) r.infos m.fr m.heap)
  | .sat => match r.effs with
    | [] => to m k
    | e :: rest => stepRegEff P xt m r k e rest
  | .wait => none
noncomputable def stepEndRange (m : AM) (l : Nat) (k : List AItem) : Option AO → Option AM
  | some (.loop r) => match r.state with
    | .busy => none
    | _ => some (m.wFrH (m.fr.wTodo ((match r.pending with | some c => [.code c] | none => []) ++ k)) (hset m.heap l (.loop (r.wState .exhausted r.pending))))
  | _ => none
noncomputable def stepBegin (m : AM) (k : List AItem) : Option AM := match m.fr.roundOf with
  | some l => match hget m.heap l with
    | some (.loop r) => match r.state with
      | .ready => some (m.wFrH (m.fr.wTodo k) (hset m.heap l (.loop (r.wState .busy r.pending))))
      | _ => none
    | _ => none
  | none => none

noncomputable def stepOps (P : Program) (xt : FuncId → Option Ext) (m : AM) (l : List Oper) (ops : Array Oper) (k : List AItem) : Option AM := match l with
  | [] => to m k
  | o :: l => aop P xt m o (.ops l ops :: k) ops
noncomputable def stepItem (P : Program) (xt : FuncId → Option Ext) (m : AM) (i : AItem) (k : List AItem) : Option AM :=
  (match i with
  | .code c => fun P xt m k => stepCode P xt m c k
  | .inBlock _ => fun _ _ m k => to m k
  | .inLoop body => fun _ _ m k => to m (.code body :: .inLoop body :: k)
  | .ops l ops => fun P xt m k => stepOps P xt m l ops k
  | .reg r => fun P xt m k => stepReg P xt m r k
  | .endRange l => fun _ _ m k => stepEndRange m l k (hget m.heap l)
  | .beginRound => fun _ _ m k => stepBegin m k
  | .inRange _ => fun _ _ _ _ => none : Program → (FuncId → Option Ext) → AM → List AItem → Option AM) P xt m k

noncomputable def astep (P : Program) (xt : FuncId → Option Ext) (m : AM) : Option AM :=
  if m.fr.ret then areturn P m else
  match m.fr.todo with
  | [] => leave m none
  | i :: k => stepItem P xt m i k

noncomputable def asteps (P : Program) (xt : FuncId → Option Ext) : Nat → AM → Option AM
  | 0, m => some m
  | n + 1, m => match astep P xt m with
    | some m' => asteps P xt n m'
    | none => none

end Abs
end Go.Proofs.YtonnifoeokagjaaGreat
