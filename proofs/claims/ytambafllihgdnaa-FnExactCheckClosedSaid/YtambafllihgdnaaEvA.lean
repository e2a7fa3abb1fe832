/- A pure reading of the machine's programs: values as trees, lists that grow, variables in memory by their place; what a function computes by it. No statement of the seat is proved here. How the pure reading stands to the machine's world. Handing over, putting down, growing. The operations that only compute: each as the machine has it. The operations that only compute, further: comparisons, lengths, parts, places. The operations that only compute: places, parts, lengths, loads. The operations that only compute: cuts, conversions, functions, parts of a tuple, loads. Objects that change: variables in memory, rows that are written. New memory: rows, variables. -/
import Derived.Calls
import Derived.Attr
import Derived.KernelRfl
import Derived.Below
import Derived.Laws.Sem
import Derived.Laws.Cells
import Derived.Laws.Entries
import Derived.ChangeKeysEq
import Derived.Laws.StructEq
import Derived.Laws.BytesString
import Derived.Laws.Tables
import Derived.Laws.CopyRow
import Derived.Laws.IdiomRangeMap
set_option linter.unusedVariables false
set_option linter.unusedSimpArgs false
namespace Go.Ev
open Go
set_option linter.unusedVariables false

inductive V where
  | undef
  | bool (b : Bool)
  | int (k : IntKind) (n : Int)
  | str (s : ByteArray)
  | slc (own : Bool) (sz : Nat) (l : List V)
  | uq (sz : Nat) (l : List V)
  | agg (l : List V)
  | tup (l : List V)
  | ptr (lv t off : Nat)
  | imp (l : List V)
  | eptr (lv t i sz : Nat)
  | aref (lv t n : Nat)
  | mp (lv t : Nat)
  | fn (f : Nat) (caps : List V)
  | nilp
  | nilfn
  deriving Inhabited

inductive Ob where
  | box (cells : List V)
  | arr (fz : Bool) (sz : Nat) (l : List V)
  | map (es : List (V × V))

/-- tmps, the frame's objects, the callers' objects, the results' places, the function, the tmps' number -/
structure St where
  t : Nat → V
  b : Nat → Option Ob
  o : List (Nat → Option Ob)
  r : Array ResultVar
  f : Nat
  n : Nat

structure LoopHint where
  blk : Nat
  keep : List Nat
  objs : List Nat

structure Hint where
  take : List Nat
  make : List Nat
  loops : List LoopHint
  deep : List Nat := []
  orders : List (Nat × List Nat) := []
  uniq : List Nat := []
  frz : List Nat := []

structure Env where
  P : Program
  H : Nat → Hint
  orc : Nat → List V → Option V

def upd {α : Type} (f : Nat → α) (d : Nat) (v : α) : Nat → α := fun t => if t = d then v else f t
theorem upd_get {α : Type} (f : Nat → α) (d t : Nat) (v : α) : upd f d v t = if t = d then v else f t := rfl
def e0 : Nat → V := fun _ => .undef
def n0 : Nat → Option Ob := fun _ => none
theorem e0_get (t : Nat) : e0 t = .undef := rfl
theorem n0_get (t : Nat) : n0 t = none := rfl

def St.lv (s : St) : Nat := s.o.length
def obIn (t : Nat) : Nat → List (Nat → Option Ob) → Option Ob
  | _, [] => none
  | lv, f :: o => if lv = o.length then f t else obIn t lv o
def setIn (t : Nat) (ob : Ob) : Nat → List (Nat → Option Ob) → List (Nat → Option Ob)
  | _, [] => []
  | lv, f :: o => if lv = o.length then upd f t (some ob) :: o else f :: setIn t ob lv o
def St.ob (s : St) (lv t : Nat) : Option Ob := obIn t lv (s.b :: s.o)
def St.setOb (s : St) (lv t : Nat) (ob : Ob) : St :=
  if lv = s.o.length then { s with b := upd s.b t (some ob) } else { s with o := setIn t ob lv s.o }

def V.flat : V → List V
  | .agg l => l
  | v => [v]
def V.viewC : V → V
  | .slc _ sz l => .slc false sz l
  | .uq _ _ => .undef
  | v => v
def V.view : V → V
  | .slc _ sz l => .slc false sz l
  | .uq _ _ => .undef
  | .agg l => .agg (l.map V.viewC)
  | .tup l => .undef
  | v => v
/-- a list that nobody else sees is one that is written no more -/
def V.setC : V → V
  | .uq sz l => .slc true sz l
  | v => v
def V.settle : V → V
  | .uq sz l => .slc true sz l
  | .agg l => .agg (l.map V.setC)
  | v => v
def setl (b : Bool) (v : V) : V := if b then v.settle else v
def pack (agg : Bool) (l : List V) : V := if agg then .agg l else l.headD .undef

/-- no reference into what may change -/
def pureC : V → Bool
  | .bool _ | .int .. | .str _ | .slc false _ _ | .nilp | .nilfn => true
  | .fn _ [] => true
  | _ => false
/-- what may be handed back: pure, or a list that nobody else sees -/
def V.outC : V → Bool
  | .uq _ _ => true
  | v => pureC v.viewC
def cellOk : V → Bool
  | .undef | .agg _ | .tup _ => false
  | _ => true
/-- names nothing above a level -/
def lowV (l : Nat) : V → Bool
  | .ptr lv _ _ | .eptr lv _ _ _ | .aref lv _ _ | .mp lv _ => decide (lv ≤ l)
  | .fn _ caps => caps.all fun c => match c with
    | .ptr lv _ _ => decide (lv ≤ l)
    | c => pureC c
  | .agg _ | .tup _ => false
  | _ => true
/-- a value read as a tree: what may lie in what never changes -/
def tree (s : St) : V → Option V
  | .aref lv t n => match s.ob lv t with
    | some (.arr true sz l) => if l.length = n then some (.slc false sz l) else none
    | _ => none
  | .agg l => if (l.map V.viewC).all pureC then some (.agg (l.map V.viewC)) else none
  | v => if pureC v.viewC then some v.viewC else none
/-- a row that is read as a tree is written no more -/
def St.frz (s : St) : V → St
  | .aref lv t _ => match s.ob lv t with
    | some (.arr false sz l) => s.setOb lv t (.arr true sz l)
    | _ => s
  | _ => s

section
variable (P : Program)
def isAgg (ty : TypeId) : Bool := match P.underlying ty with
  | some (.struct _) | some (.array _ _) => true
  | _ => false
def isSl (ty : TypeId) : Bool := match P.underlying ty with
  | some (.slice _) => true
  | _ => false
def isStr (ty : TypeId) : Bool := match P.underlying ty with
  | some .string => true
  | _ => false
/-- a type's cells; 0: nothing is said -/
def szOf (ty : TypeId) : Nat := match P.info? ty, P.underlying ty with
  | some i, some _ => i.size
  | _, _ => 0
def elemOf (ty : TypeId) : TypeId := match P.underlying ty with
  | some (.slice e) => e
  | some (.array _ e) => e
  | _ => 0
def elemSz (ty : TypeId) : Nat := szOf P (elemOf P ty)
def zeroT : Nat → TypeId → List V
  | 0, _ => [.undef]
  | n + 1, ty => match P.underlying ty with
    | some .bool => [.bool false]
    | some (.int k) => [.int k 0]
    | some .string => [.str ⟨#[]⟩]
    | some (.slice e) => [.slc true (szOf P e) []]
    | some (.pointer _) => [.nilp]
    | some (.func ..) => [.nilfn]
    | some (.struct fs) => (fs.toList.map fun f => zeroT n f.type).flatten
    | some (.array k e) => (List.replicate k (zeroT n e)).flatten
    | _ => [.undef]
def agree : V → Value → Bool
  | .bool a, .bool b => a == b
  | .int k a, .int k' b => k == k' && a == b
  | .str a, .string b => a.data.isEmpty && b.data.isEmpty
  | .slc true _ [], .slice none 0 0 => true
  | .nilp, .pointer none => true
  | .nilfn, .nilFunc => true
  | _, _ => false
def agrees : List V → List Value → Bool
  | [], [] => true
  | a :: l, b :: m => agree a b && agrees l m
  | _, _ => false
def zShape (ag : Bool) : Value → Bool
  | .agg _ => ag
  | .tuple _ => false
  | _ => !ag
def zero (ty : TypeId) : Option (List V) := match (P.info? ty).bind (·.zero) with
  | some z => if agrees (zeroT P 9 ty) z.cells.toList && zShape (isAgg P ty) z then some (zeroT P 9 ty) else none
  | none => none
def dflt (ty : TypeId) : V := (pack (isAgg P (elemOf P ty)) ((zero P (elemOf P ty)).getD [])).view
def cst (ty : TypeId) : Value → V
  | .bool b => .bool b
  | .int k n => .int k n
  | .string s => .str s
  | .slice none 0 0 => .slc true (elemSz P ty) []
  | .pointer none => .nilp
  | .nilFunc => .nilfn
  | _ => .undef
def rd (t : Nat → V) (ty : TypeId) : Operand → V
  | .tmp i => t i
  | .const v => cst P ty v
  | .func f => .fn f []
  | .global _ => .undef
end

/-! arithmetic -/
def arith (op : BinOp) (k : IntKind) (a b : Int) : Option V :=
  match op with
  | .add => some (.int k (k.wrap (a + b)))
  | .sub => some (.int k (k.wrap (a - b)))
  | .mul => some (.int k (k.wrap (a * b)))
  | .quo => if b = 0 then none else some (.int k (k.wrap (a.tdiv b)))
  | .rem => if b = 0 then none else some (.int k (a.tmod b))
  | .and => some (.int k (k.wrap ((BitVec.ofInt k.bits a &&& BitVec.ofInt k.bits b).toNat : Int)))
  | .or => some (.int k (k.wrap ((BitVec.ofInt k.bits a ||| BitVec.ofInt k.bits b).toNat : Int)))
  | .eql => some (.bool (a == b))
  | .neq => some (.bool (a != b))
  | .lss => some (.bool (decide (a < b)))
  | .leq => some (.bool (decide (a ≤ b)))
  | .gtr => some (.bool (decide (a > b)))
  | .geq => some (.bool (decide (a ≥ b)))
  | _ => none
def shiftV (op : BinOp) (k : IntKind) (a b : Int) : Option V :=
  if b < 0 then none else match op with
  | .shl => some (.int k (k.wrap (a * 2 ^ (min b.toNat k.bits))))
  | .shr => some (.int k (a.fdiv (2 ^ (min b.toNat k.bits))))
  | _ => none
def strOp (op : BinOp) (a b : ByteArray) : Option V :=
  match op with
  | .add => if ((a.size + b.size : Nat) : Int) > 9223372036854775807 then none else some (.str (a ++ b))
  | .eql => some (.bool (a.toList == b.toList))
  | .neq => some (.bool (!(a.toList == b.toList)))
  | .lss => some (.bool (Op.bytesLess a.toList b.toList))
  | .geq => some (.bool (!Op.bytesLess a.toList b.toList))
  | _ => none
/-- equality, at a type of numbers, truths and strings alone -/
def sameT : TypeDesc → V → V → Option Bool
  | .int _, .int k a, .int k' b => if k = k' then some (a == b) else none
  | .bool, .bool a, .bool b => some (a == b)
  | .string, .str a, .str b => some (a.toList == b.toList)
  | _, _, _ => none
def sameF (P : Program) : Nat → List Field → List V → List V → Option Bool
  | _, [], [], [] => some true
  | n, f :: fs, a :: l, b :: m => if f.offset = n ∧ (f.name == "_") = false then match P.underlying f.type with
    | some td => match sameT td a b, sameF P (n + 1) fs l m with
      | some x, some y => some (x && y)
      | _, _ => none
    | none => none
    else none
  | _, _, _, _ => none
def sameA (td : TypeDesc) : List V → List V → Option Bool
  | [], [] => some true
  | a :: l, b :: m => match sameT td a b, sameA td l m with
    | some x, some y => some (x && y)
    | _, _ => none
  | _, _ => none
def eqV (P : Program) (t : TypeId) (x y : V) : Option Bool := match P.underlying t with
  | some (.struct fs) => if P.stoodInHeld t = false then match x, y with
    | .agg l, .agg m => sameF P 0 fs.toList l m
    | _, _ => none
    else none
  | some (.array n e) => match x, y with
    | .agg l, .agg m => if l.length = n ∧ szOf P e = 1 then match P.underlying e with
      | some td => sameA td l m
      | none => none
      else none
    | _, _ => none
  | some td => sameT td x y
  | none => none
def binV (P : Program) (t : TypeId) (op : BinOp) (x y : V) : Option V :=
  match x, y with
  | .int k a, .int k' b => match op with
    | .shl | .shr => shiftV op k a b
    | _ => if k = k' then arith op k a b else none
  | .str a, .str b => strOp op a b
  | .bool a, .bool b => match op with
    | .eql => (eqV P t (.bool a) (.bool b)).map .bool
    | .neq => (eqV P t (.bool a) (.bool b)).map fun x => .bool (!x)
    | _ => none
  | .agg a, .agg b => if P.eqGuardType P.depth t = false then match op with
    | .eql => (eqV P t (.agg a) (.agg b)).map .bool
    | .neq => (eqV P t (.agg a) (.agg b)).map fun x => .bool (!x)
    | _ => none
    else none
  | _, _ => none
/-- is it the nil of the lists -/
def isNilc : Operand → Bool
  | .const (.slice none 0 0) => true
  | _ => false
/-- a list against nil: told of those that surely are none -/
def nilCmp (P : Program) (op : BinOp) (ty : TypeId) : V → Option V
  | .slc _ _ (_ :: _) | .aref .. => if isSl P ty then match op with
    | .eql => some (.bool false)
    | .neq => some (.bool true)
    | _ => none
    else none
  | _ => none
def V.ite (c : Bool) : V → V → V
  | .bool a, .bool b => .bool (if c then a else b)
  | .int k a, .int k' b => if k = k' then .int k (if c then a else b) else .undef
  | .str a, .str b => .str (if c then a else b)
  | x, y => if c then x else y

/-! the steps -/
inductive It where
  | code (c : Code)
  | ops (l : List Oper) (all : Array Oper)
  | blk (id : Nat)
  | lp (c : Code)

/-- the items behind a block's end -/
def outOf (id : Nat) : List It → Option (List It)
  | [] => none
  | .blk i :: k => if i = id then some k else outOf id k
  | _ :: k => outOf id k

def setL (l : List V) (off : Nat) (c : List V) : List V := l.take off ++ c ++ l.drop (off + c.length)

def memN : Nat → List Nat → Bool
  | _, [] => false
  | n, a :: l => if n = a then true else memN n l

def St.put (s : St) (d : Nat) (v : V) : St := { s with t := upd s.t d v }
/-- an operand is handed over: what it owned it owns no more -/
def St.drop (s : St) (x : Operand) : St := match x with
  | .tmp i => s.put i (s.t i).view
  | _ => s
/-- an operand, all of it -/
def St.all (s : St) (P : Program) (ty : TypeId) (x : Operand) : V := match x with
  | .tmp i => s.t i
  | x => rd P s.t ty x
/-- a view of an operand -/
def St.see (s : St) (P : Program) (ty : TypeId) (x : Operand) : V := match x with
  | .tmp i => (s.t i).view
  | x => (rd P s.t ty x).view
/-- a tree, and the world in which its row is written no more (dr: where the order is drawn no row is turned) -/
def St.tree (s : St) (P : Program) (ty : TypeId) (x : Operand) : Option (V × St) :=
  let s' := s.frz (s.see P ty x)
  (Ev.tree s' (s.see P ty x)).map (·, s')

def mapOpt {α β : Type} (f : α → Option β) : List α → Option (List β)
  | [] => some []
  | a :: l => match f a, mapOpt f l with
    | some b, some m => some (b :: m)
    | _, _ => none
def St.trees (P : Program) : St → List (TypeId × Operand) → Option (List V × St)
  | s, [] => some ([], s)
  | s, (ty, x) :: l => match s.tree P ty x with
    | some (v, s1) => match St.trees P s1 l with
      | some (vs, s2) => some (v :: vs, s2)
      | none => none
    | none => none

def isRef : V → Bool
  | .ptr .. | .eptr .. | .aref .. | .mp .. => true
  | .fn _ caps => !caps.isEmpty
  | _ => false
/-- an argument: a reference as it is, or a tree -/
def St.arg (s : St) (P : Program) (ty : TypeId) (x : Operand) : Option (V × St) := match s.see P ty x with
  | .ptr lv t off => some (.ptr lv t off, s)
  | .mp lv t => some (.mp lv t, s)
  | .fn f c => some (.fn f c, s)
  | _ => s.tree P ty x
def St.args (P : Program) : St → List (TypeId × Operand) → Option (List V × St)
  | s, [] => some ([], s)
  | s, (ty, x) :: l => match s.arg P ty x with
    | some (v, s1) => match St.args P s1 l with
      | some (vs, s2) => some (v :: vs, s2)
      | none => none
    | none => none

def findE (P : Program) (kt : TypeId) (k : V) : List (V × V) → Option (Option V)
  | [] => some none
  | e :: es => match eqV P kt k e.1 with
    | some true => some (some e.2)
    | some false => findE P kt k es
    | none => none
def putE (P : Program) (kt : TypeId) (k v : V) : List (V × V) → Option (List (V × V))
  | [] => some [(k, v)]
  | e :: es => match eqV P kt k e.1 with
    | some true => some ((k, v) :: es)
    | some false => (putE P kt k v es).map (e :: ·)
    | none => none

def optInt : Option V → Option (Option Int)
  | none => some none
  | some (.int _ n) => some (some n)
  | _ => none

def bytesV (s : ByteArray) : List V := s.data.toList.map fun b => .int .u8 (b.toNat : Int)
def u8 : V → Option Int
  | .int .u8 n => some n
  | _ => none
def ofInts (ns : List Int) : ByteArray := ns.foldl (fun r n => r.push (UInt8.ofNat n.toNat)) ByteArray.empty
def bt (s : ByteArray) (i : Int) : Int := if h : i.toNat < s.size then ((s[i.toNat]'h).toNat : Int) else 0

section
variable (P : Program) (H : Hint)
def sliceV (ty : TypeId) (v : V) (lo hi mx : Option Int) : Option V :=
  match v with
  | .str s => match mx with
    | some _ => none
    | none => if isStr P ty = true ∧ 0 ≤ lo.getD 0 ∧ lo.getD 0 ≤ hi.getD s.size ∧ hi.getD s.size ≤ s.size then some (.str (s.extract (lo.getD 0).toNat (hi.getD s.size).toNat)) else none
  | .slc _ sz xs => if isSl P ty = true ∧ sz = elemSz P ty ∧ sz ≠ 0 ∧ 0 ≤ lo.getD 0 ∧ lo.getD 0 ≤ hi.getD xs.length ∧ hi.getD xs.length ≤ xs.length then
      (match mx with
        | some m => if m = hi.getD xs.length ∧ hi.isSome then some (.slc true sz ((xs.take (hi.getD xs.length).toNat).drop (lo.getD 0).toNat)) else none
        | none => some (.slc false sz ((xs.take (hi.getD xs.length).toNat).drop (lo.getD 0).toNat)))
    else none
  | _ => none

/-- a type whose rows can be appended to -/
def growB (ty : TypeId) : Bool := isSl P ty && elemSz P ty != 0 && P.bytesOf (elemOf P ty) != 0 && (match zero P (elemOf P ty) with | some z => z.length == elemSz P ty | none => false)
def appendV (ty ty' : TypeId) (v x : V) : Option V :=
  match v with
  | .slc true sz l => if growB P ty = true ∧ sz = elemSz P ty then match x with
    | .slc _ sz' m => if isSl P ty' = true ∧ sz' = sz then if (l.length + m.length) * P.bytesOf (elemOf P ty) ≤ 140737488355328 then some (.slc true sz (l ++ m)) else none else none
    | .str s => if isStr P ty' = true ∧ sz = 1 then if (l.length + s.size) * P.bytesOf (elemOf P ty) ≤ 140737488355328 then some (.slc true 1 (l ++ bytesV s)) else none else none
    | _ => none
    else none
  | _ => none

/-- a list that nobody else sees, grown -/
def appendU (ty ty' : TypeId) (u : Bool) (v x : V) : Option V :=
  match v with
  | .uq sz l => (appendV P ty ty' (.slc true sz l) x).bind fun r => match r with
    | .slc true sz l => some (.uq sz l)
    | _ => none
  | v => if u then (match v with
    | .slc true sz [] => (appendV P ty ty' (.slc true sz []) x).bind fun r => match r with
      | .slc true sz l => some (.uq sz l)
      | _ => none
    | _ => none)
    else appendV P ty ty' v x

def convV (src dst : TypeId) (v : V) : Option V :=
  match P.underlying src, P.underlying dst, v with
  | some (.int _), some (.int k), .int _ n => some (.int k (k.wrap n))
  | some .string, some .string, .str s => some (.str s)
  | some (.slice e), some .string, .slc _ sz l => match P.underlying e, mapOpt u8 l with
    | some (.int .u8), some ns => if sz = 1 then some (.str (ofInts ns)) else none
    | _, _ => none
  | _, _, _ => none

def lenV (s : St) (t : TypeId) : V → Option V
  | .slc _ _ l => if isSl P t then some (.int .i64 (l.length : Int)) else none
  | .str x => if isStr P t then some (.int .i64 (x.size : Int)) else none
  | .aref _ _ n => if isSl P t then some (.int .i64 (n : Int)) else none
  | .mp lv u => match P.underlying t, s.ob lv u with
    | some (.map _ _), some (.map es) => some (.int .i64 (es.length : Int))
    | _, _ => none
  | _ => none
def min2V : V → V → Option V
  | .int k a, .int k' b => if k = k' then some (.int k (if b < a then b else a)) else none
  | _, _ => none
def max2V : V → V → Option V
  | .int k a, .int k' b => if k = k' then some (.int k (if b > a then b else a)) else none
  | _, _ => none

def unV (op : UnOp) (v : V) : Option V := match op, v with
  | .not, .bool b => some (.bool (!b))
  | .neg, .int k n => some (.int k (k.wrap (0 - n)))
  | _, _ => none

/-- a struct's parts, each handed over -/
def buildF (fs : Array Field) : St → List V → List (Nat × Operand) → Option (List V × St)
  | s, cs, [] => some (cs, s)
  | s, cs, (i, x) :: ps => match fs[i]? with
    | some f =>
      let v := s.all P f.type x
      let c := v.flat
      if c.length = szOf P f.type ∧ f.offset + c.length ≤ cs.length then (match v with
        | .tup _ | .undef => none
        | _ => buildF fs (s.drop x) (setL cs f.offset c) ps) else none
    | none => none
/-- are the parts told from 0 on, all of them -/
def inOrder : Nat → List (Nat × Operand) → Bool
  | _, [] => true
  | n, p :: ps => if p.1 = n then inOrder (n + 1) ps else false

def vLoad (s : St) (tk : Bool) (t : TypeId) : V → Option (V × St)
  | .ptr lv u off => match s.ob lv u with
    | some (.box cs) => if off + szOf P t ≤ cs.length ∧ szOf P t ≠ 0 then
        (if tk then some (pack (isAgg P t) ((cs.drop off).take (szOf P t)), s.setOb lv u (.box (setL cs off (((cs.drop off).take (szOf P t)).map V.viewC))))
        else some (pack (isAgg P t) (((cs.drop off).take (szOf P t)).map V.viewC), s)) else none
    | _ => none
  | .imp l => if szOf P t ≤ l.length ∧ szOf P t ≠ 0 then some (pack (isAgg P t) (l.take (szOf P t)), s) else none
  | .eptr lv u i sz => match s.ob lv u with
    | some (.arr _ sz' l) => if sz = szOf P t ∧ sz' = sz ∧ sz ≠ 0 ∧ i < l.length then some (pack (isAgg P t) (l.getD i .undef).flat, s) else none
    | _ => none
  | _ => none

def uStore (s : St) (t : TypeId) (x : Operand) : V → Option St
  | .ptr lv u off =>
    let v := s.all P t x
    match s.ob lv u with
    | some (.box cs) => if v.flat.length = szOf P t ∧ off + szOf P t ≤ cs.length ∧ szOf P t ≠ 0 ∧ v.flat.all cellOk ∧ v.flat.all (lowV lv) then (match v with
        | .tup _ | .undef => none
        | _ => some ((s.drop x).setOb lv u (.box (setL cs off v.flat)))) else none
    | _ => none
  | .eptr lv u i sz => match s.tree P t x with
    | some (v, s1) => match s1.ob lv u with
      | some (.arr false sz' l) => if sz = szOf P t ∧ sz' = sz ∧ v.flat.length = sz ∧ sz ≠ 0 ∧ i < l.length then some (s1.setOb lv u (.arr false sz (l.set i v))) else none
      | _ => none
    | none => none
  | _ => none

def vField (s : St) (t : TypeId) (f : Nat) (v : V) : Option V := match P.underlying t with
  | some (.struct fs) => match fs[f]?, v with
    | some f, .agg l => if f.offset + szOf P f.type ≤ l.length ∧ szOf P f.type ≠ 0 then some (pack (isAgg P f.type) ((l.drop f.offset).take (szOf P f.type))) else none
    | _, _ => none
  | _ => none
def vFieldAddr (t : TypeId) (f : Nat) (v : V) : Option V := match P.underlying t with
  | some (.struct fs) => match fs[f]? with
    | some f => if szOf P f.type ≠ 0 then (match v with
      | .ptr lv u off => some (.ptr lv u (off + f.offset))
      | .imp l => some (.imp (l.drop f.offset))
      | _ => none) else none
    | _ => none
  | _ => none
def vIndexAddr (t : TypeId) (v i : V) : Option V := match v, i with
  | .slc _ sz l, .int _ n => if isSl P t = true ∧ sz = elemSz P t ∧ sz ≠ 0 then if 0 ≤ n ∧ n < (l.length : Int) then some (.imp (l.getD n.toNat (dflt P t)).flat) else none else none
  | .aref lv u m, .int _ n => if isSl P t = true ∧ elemSz P t ≠ 0 then if 0 ≤ n ∧ n < (m : Int) then some (.eptr lv u n.toNat (elemSz P t)) else none else none
  | .ptr lv u off, .int _ n => match P.underlying t with
    | some (.array k e) => if szOf P e ≠ 0 then if 0 ≤ n ∧ n < (k : Int) then some (.ptr lv u (off + n.toNat * szOf P e)) else none else none
    | _ => none
  | _, _ => none
def vIndex (t : TypeId) (v i : V) : Option V := match v, i with
  | .str b, .int _ n => if isStr P t = true then if 0 ≤ n ∧ n < (b.size : Int) then some (.int .u8 (bt b n)) else none else none
  | .agg l, .int _ n => match P.underlying t with
    | some (.array k e) => if szOf P e ≠ 0 ∧ l.length = k * szOf P e then if 0 ≤ n ∧ n < (k : Int) then some (pack (isAgg P e) ((l.drop (n.toNat * szOf P e)).take (szOf P e))) else none else none
    | _ => none
  | _, _ => none
def vLookup (s : St) (t : TypeId) (ok : Bool) (m k : V) : Option V := match P.underlying t, m with
  | some (.map kt e), .mp lv u => match s.ob lv u, zero P e with
    | some (.map es), some z => if (eqV P kt k k).isSome = true ∧ z.length = szOf P e ∧ z.length ≠ 0 ∧ (z.length = 1 ∨ isAgg P e = true) then match findE P kt k es with
      | some (some v) => some (if ok then .tup [v, .bool true] else v)
      | none => none
      | some none => some (if ok then .tup [(pack (isAgg P e) z).view, .bool false] else (pack (isAgg P e) z).view)
      else none
    | _, _ => none
  | _, _ => none
def uMap (s : St) (t : TypeId) (m k v : Operand) : Option St := match P.underlying t with
  | some (.map kt e) => match s.tree P kt k with
    | some (kv, s1) => match s1.tree P e v with
      | some (vv, s2) => match s2.see P t m with
        | .mp lv u => match s2.ob lv u with
          | some (.map es) => if (eqV P kt kv kv).isSome = true then (putE P kt kv vv es).map fun es => s2.setOb lv u (.map es) else none
          | _ => none
        | _ => none
      | none => none
    | none => none
  | _ => none

def isTmpIn (l : List Nat) : Operand → Bool
  | .tmp i => memN i l
  | _ => false
/-- a list that nobody else sees becomes an object -/
def uMake (s : St) (d : Nat) : V → Option (V × St)
  | .uq sz [] => some (.slc true sz [], s)
  | .uq sz (x :: l) => match s.b d with
    | none => some (.aref s.lv d (l.length + 1), { s with b := upd s.b d (some (.arr false sz (x :: l))) })
    | some _ => none
  | v => some (v, s)
def uMakes (s : St) : Nat → List V → Option (List V × St)
  | _, [] => some ([], s)
  | d, c :: l => match uMakes s (d + 1) l with
    | some (l', s1) => (uMake s1 d c).map fun r => (r.1 :: l', r.2)
    | none => none
/-- a store that makes objects of such lists -/
def uStoreM (s : St) (t : TypeId) (x : Operand) : V → Option St
  | .ptr lv u off =>
    let v := s.all P t x
    if lv = s.lv ∧ v.flat.length = szOf P t then match v with
      | .tup _ | .undef => none
      | _ => match uMakes (s.drop x) (s.n + 64 * u + off) v.flat with
        | some (cs', s1) => match s1.ob lv u with
          | some (.box cs) => if off + szOf P t ≤ cs.length ∧ szOf P t ≠ 0 ∧ cs'.all cellOk ∧ cs'.all (lowV lv) then some (s1.setOb lv u (.box (setL cs off cs'))) else none
          | _ => none
        | none => none
    else none
  | _ => none

/-- an operation that gives a value and calls no function -/
def evV (d : Nat) (ty : TypeId) (op : Op) (s : St) : Option (V × St) :=
  match op with
  | .move x | .assign x => match x with
    | .tmp i => if memN d H.frz then s.tree P ty (.tmp i) else if memN d H.take then (if memN d H.make then uMake (s.drop x) d (s.t i) else some (s.t i, s.drop x)) else some ((s.t i).view, s)
    | x => some (rd P s.t ty x, s)
  | .pick c a b => match s.see P 0 c with
    | .bool cb => some (V.ite cb (s.see P ty a) (s.see P ty b), s)
    | _ => none
  | .alloc e => match s.b d, zero P e with
    | none, some z => if z.all (lowV s.lv) then some (.ptr s.lv d 0, { s with b := upd s.b d (some (.box z)) }) else none
    | _, _ => none
  | .box e x => match s.b d, s.all P e x with
    | none, .tup _ => none
    | none, .undef => none
    | none, v => if v.flat.all (lowV s.lv) then some (.ptr s.lv d 0, { s.drop x with b := upd s.b d (some (.box v.flat)) }) else none
    | some _, _ => none
  | .build t ps => match P.underlying t, zero P t with
    | some (.struct fs), some z => if fs.toList.all (fun f => szOf P f.type != 0) then (buildF P fs s z ps.toList).map fun r => (.agg r.1, r.2) else none
    | some (.array n e), some z => if inOrder 0 ps.toList && ps.size == n && szOf P e != 0 && z.length == n * szOf P e && szOf P t != 0 then
        match St.trees P s (ps.toList.map fun p => (e, p.2)) with
        | some (vs, s1) => if vs.all (fun v => v.flat.length == szOf P e) then some (.agg (vs.map V.flat).flatten, s1) else none
        | none => none
      else none
    | _, _ => none
  | .buildSlice t n ps => if isSl P t && inOrder 0 ps.toList && ps.size == n && elemSz P t != 0 && decide (n * elemSz P t ≤ 16777216) && (zero P (elemOf P t)).isSome then
      match St.trees P s (ps.toList.map fun p => (elemOf P t, p.2)) with
      | some (vs, s1) => if vs.all (fun v => v.flat.length == elemSz P t) then
          (if memN d H.make then match s1.b d with
            | none => some (.aref s.lv d n, { s1 with b := upd s1.b d (some (.arr false (elemSz P t) vs)) })
            | some _ => none
          else some (.slc true (elemSz P t) vs, s1))
        else none
      | none => none
    else none
  | .load t a => vLoad P s (memN d H.take) t (s.see P 0 a)
  | .nilCheck x => match s.see P 0 x with
    | .ptr lv t off => some (.ptr lv t off, s)
    | .imp l => some (.imp l, s)
    | .eptr lv t i sz => some (.eptr lv t i sz, s)
    | .fn f c => some (.fn f c, s)
    | _ => none
  | .binOp op ty x y _ => if isNilc y then (nilCmp P op ty (s.see P ty x)).map (·, s) else (binV P ty op (s.see P ty x) (s.see P ty y)).map (·, s)
  | .unOp op ty x => (unV op (s.see P ty x)).map (·, s)
  | .convert src dst x => (convV P src dst (s.see P src x)).map (·, s)
  | .makeFunc (.func f) first caps => if first.isEmpty then (mapOpt (fun x => match s.see P 0 x with | .ptr lv t off => some (.ptr lv t off) | _ => none) caps.toList).map fun cs => (.fn f cs, s) else none
  | .makeMap _ r => match s.b d, r with
    | none, none => some (.mp s.lv d, { s with b := upd s.b d (some (.map [])) })
    | _, _ => none
  | .makeSlice t l c => match s.see P 0 l, s.see P 0 c, zero P (elemOf P t) with
    | .int _ n, .int _ m, some z => if isSl P t = true ∧ elemSz P t ≠ 0 ∧ P.bytesOf (elemOf P t) ≠ 0 ∧ z.length = elemSz P t ∧ (dflt P t).flat.length = elemSz P t then
        if 0 ≤ n ∧ n ≤ m ∧ m * P.bytesOf (elemOf P t) ≤ 140737488355328 then
        (if memN d H.make then match s.b d with
          | none => some (.aref s.lv d n.toNat, { s with b := upd s.b d (some (.arr false (elemSz P t) (List.replicate n.toNat (dflt P t)))) })
          | some _ => none
        else some (.slc true (elemSz P t) (List.replicate n.toNat (dflt P t)), s))
        else none
      else none
    | _, _, _ => none
  | .slice t x lo hi mx => match optInt (lo.map (s.see P 0)), optInt (hi.map (s.see P 0)), optInt (mx.map (s.see P 0)) with
    | some l, some h, some m => (sliceV P t (s.see P t x) l h m).map (·, s)
    | _, _, _ => none
  | .fieldAddr t x f => (vFieldAddr P t f (s.see P 0 x)).map (·, s)
  | .field t x f => (vField P s t f (s.see P t x)).map (·, s)
  | .indexAddr t x i => (vIndexAddr P t (s.see P t x) (s.see P 0 i)).map (·, s)
  | .index t x i => (vIndex P t (s.see P t x) (s.see P 0 i)).map (·, s)
  | .lookup t m k ok => match P.underlying t with
    | some (.map kt e) => (vLookup P s t ok (s.see P t m) (s.see P kt k)).map (·, s)
    | _ => none
  | .extract x i => match x with
    | .tmp u => match s.t u with
      | .tup l => (l[i]?).map fun v => (v, s.put u (.tup (l.set i .undef)))
      | _ => none
    | _ => none
  | .call { callee := .builtin b, args, argTypes } => match b, args.toList, argTypes.toList with
    | .len, [x], [t] => (lenV P s t (s.see P t x)).map (·, s)
    | .min, [x, y], _ => (min2V (s.see P 0 x) (s.see P 0 y)).map (·, s)
    | .max, [x, y], _ => (max2V (s.see P 0 x) (s.see P 0 y)).map (·, s)
    | .append, [x, y], [t, t'] => (appendU P t t' (memN d H.uniq) (s.all P t x) (s.see P t' y)).map (·, s.drop x)
    | _, _, _ => none
  | _ => none
/-- an operation that gives none -/
def evU (op : Op) (s : St) : Option St :=
  match op with
  | .store t a x => if isTmpIn H.make a then uStoreM P s t x (s.see P 0 a) else uStore P s t x (s.see P 0 a)
  | .mapUpdate t m k v | .insert t m k v => uMap P s t m k v
  | _ => none
def evOp (o : Oper) (s : St) : Option St := match o.dst with
  | some d => if d < s.n then (evV P H d o.type o.op s).map fun r => r.2.put d r.1 else none
  | none => evU P H o.op s
end

inductive Out where
  | go (k : List It) (s : St)
  | call (f : Nat) (args : List V) (outer : List (Nat → Option Ob)) (plain : Bool × Bool) (d : Option Nat) (k : List It) (s : St)
  | done (v : V) (o : List (Nat → Option Ob))
  | draw (ops : Array Oper) (c : List Nat) (k : List It) (s : St)
  | fail

def argT : Nat → List V → (Nat → V)
  | _, [] => e0
  | i, a :: l => upd (argT (i + 1) l) i a

/-- a result's cell: rows are written no more -/
def resC (s : St) : V → Option (V × St)
  | .aref lv u n => (tree (s.frz (.aref lv u n)) (.aref lv u n)).map (·, s.frz (.aref lv u n))
  | v => if v.outC then some (v, s) else none
def resCs : St → List V → Option (List V × St)
  | s, [] => some ([], s)
  | s, c :: l => match resC s c with
    | some (c', s1) => match resCs s1 l with
      | some (l', s2) => some (c' :: l', s2)
      | none => none
    | none => none
def resW (s : St) : V → Option (V × St)
  | .agg l => (resCs s l).map fun r => (.agg r.1, r.2)
  | v => resC s v
/-- a result, handed over -/
def resV (P : Program) (s : St) : ResultVar → Option (V × St)
  | .tmp t => resW s (s.t t)
  | .cell x ty => match vLoad P s true ty (s.see P 0 (.tmp x)) with
    | some (v, s1) => resW s1 v
    | none => none
/-- one of many results, as a tree -/
def resT (P : Program) (s : St) : ResultVar → Option (V × St)
  | .tmp t => s.tree P 0 (.tmp t)
  | .cell x ty => match vLoad P s false ty (s.see P 0 (.tmp x)) with
    | some (v, s1) => if v.view.flat.all pureC then some (v.view, s1) else none
    | none => none
def resTs (P : Program) : St → List ResultVar → Option (List V × St)
  | s, [] => some ([], s)
  | s, r :: rs => match resT P s r with
    | some (v, s1) => match resTs P s1 rs with
      | some (vs, s2) => some (v :: vs, s2)
      | none => none
    | none => none
def endV (P : Program) (s : St) : Option (V × St) := match s.r.toList with
  | [r] => resV P s r
  | rs => (resTs P s rs).map fun x => (.tup x.1, x.2)

def St.putO (s : St) (d : Option Nat) (v : V) : St := match d with
  | some d => s.put d v
  | none => s
/-- is a list of the callee's that nobody else sees to be written no more -/
def setF (E : Env) (g : Nat) (d : Option Nat) (s : St) : Bool := match (E.H g).uniq with
  | [] => false
  | _ :: _ => match d with
    | some d => !memN d (E.H s.f).uniq
    | none => true
def callOp (E : Env) (d : Option Nat) (f : Operand) (args : Array Operand) (argTypes : Array TypeId) (k : List It) (s : St) : Out :=
  match s.see E.P 0 f, s.args E.P (argTypes.toList.zip args.toList) with
  | .fn g caps, some (vs, s1) => if args.size = argTypes.size ∧ d.all (fun d => decide (d < s.n)) then
    (if (vs ++ caps).any isRef || !caps.isEmpty then .call g (vs ++ caps) (s1.b :: s1.o) (false, setF E g d s1) d k s1
    else match E.orc g (vs ++ caps) with
    | some v => .go k (s1.putO d v)
    | none => .call g (vs ++ caps) [] (true, setF E g d s1) d k s1)
    else .fail
  | _, _ => .fail

/-! drawn orders -/
/-- what a run by another reading gives: the callee's answer -/
def startS (E : Env) (f : Nat) (args : List V) (outer : List (Nat → Option Ob)) : Option (List It × St) :=
  match E.P.funcs[f]? with
  | some fn => if args.length ≤ fn.ntmps ∧ (fn.name == "runtime.NumGoroutine") = false then fn.body.map fun c => ([.code c], { t := argT 0 args, b := n0, o := outer, r := fn.results, f := f, n := fn.ntmps }) else none
  | none => none
def backS (s : St) (plain : Bool × Bool) (d : Option Nat) (v : V) (o : List (Nat → Option Ob)) : St :=
  if plain.1 then s.putO d (setl plain.2 v) else { s.putO d (setl plain.2 v) with b := o.headD n0, o := o.tail }
abbrev Run := List It → St → Option (V × List (Nat → Option Ob))
def evCallV (E : Env) (ev : Run) : Out → Option St
  | .go _ s' => some s'
  | .call f args outer plain d _ s' => match startS E f args outer with
    | none => none
    | some (k0, s0) => match ev k0 s0 with
      | none => none
      | some r => some (backS s' plain d r.1 r.2)
  | _ => none
def stepOV (E : Env) (ev : Run) (o : Oper) (s : St) : Option St := match o.op with
  | .call { callee := .value f, args, argTypes } => evCallV E ev (callOp E o.dst f args argTypes [] s)
  | _ => evOp E.P (E.H s.f) o s
/-- is the operation wanted -/
def guardS (all : Array Oper) (o : Oper) (s : St) : Option Bool := match o.guard with
  | none => some true
  | some (j, want) => match ((all[j]?).bind (·.dst)).map s.t with
    | some (.bool b) => some (b == want)
    | some (.tup []) => some false
    | _ => none

/-- operations that meet no object -/
def isX (P : Program) (H : Hint) (o : Oper) : Bool := match o.dst with
  | none => false
  | some d => match o.op with
    | .move _ | .assign _ => !(memN d H.frz || memN d H.make)
    | .pick .. | .nilCheck _ | .binOp .. | .unOp .. | .convert .. | .slice .. | .fieldAddr .. | .field .. | .indexAddr .. | .index .. | .extract .. => true
    | .build t _ => match P.underlying t with
      | some (.struct _) => true
      | _ => false
    | .buildSlice .. | .makeSlice .. => !memN d H.make
    | .call { callee := .builtin b, args, argTypes } => match b, args.toList, argTypes.toList with
      | .len, [_], [_] | .min, [_, _], _ | .max, [_, _], _ | .append, [_, _], [_, _] => true
      | _, _, _ => false
    | .call { callee := .value _, .. } => !memN d H.deep
    | _ => false
/-- operations that read objects alone -/
def isL (H : Hint) (o : Oper) : Bool := match o.dst with
  | none => false
  | some d => match o.op with
    | .load .. => !memN d H.take
    | .lookup .. => true
    | _ => false
/-- operations that turn objects, of which the frame is known -/
def isW (H : Hint) (o : Oper) : Bool := match o.op, o.dst with
  | .alloc _, some _ => true
  | .load .., some d => memN d H.take
  | .store _ a _, none => !isTmpIn H.make a
  | .call { callee := .value _, .. }, some d => memN d H.deep
  | _, _ => false
def tmpsOf : List Operand → List Nat
  | [] => []
  | .tmp i :: l => i :: tmpsOf l
  | _ :: l => tmpsOf l
/-- what an operation hands over -/
def drops (H : Hint) (o : Oper) : List Nat := match o.op with
  | .move x | .assign x => if memN (o.dst.getD 0) H.take then tmpsOf [x] else []
  | .build _ ps => tmpsOf (ps.toList.map (·.2))
  | .call { callee := .builtin .append, args, .. } => tmpsOf (args.toList.take 1)
  | .store _ _ x => tmpsOf [x]
  | _ => []
def chg (H : Hint) (o : Oper) : List Nat := o.dst.toList ++ drops H o
def looks (all : Array Oper) (o : Oper) : List Nat := tmpsOf o.op.operands.toList ++ (match o.guard with
  | some (g, _) => ((all[g]?).bind (·.dst)).toList
  | none => [])
def isMp : V → Bool
  | .mp .. => true
  | _ => false
/-- no object is met by the way -/
def dynX (P : Program) (o : Oper) (s : St) : Bool := match o.op with
  | .build _ ps | .buildSlice _ _ ps => ps.toList.all fun p => !isRef (s.see P 0 p.2)
  | .call { callee := .value f, args, .. } => !isRef (s.see P 0 f) && args.toList.all fun x => !isRef (s.see P 0 x)
  | .call { callee := .builtin .len, args, .. } => args.toList.all fun x => !isMp (s.see P 0 x)
  | _ => true
/-- the value of an operation that meets no object -/
def xval (E : Env) (ev : Run) (o : Oper) (s : St) : Option V := match o.op with
  | .extract (.tmp u) i => match s.t u with
    | .tup l => (l[i]?).map V.view
    | _ => none
  | .call { callee := .value f, args, argTypes } => match s.see E.P 0 f, s.args E.P (argTypes.toList.zip args.toList) with
    | .fn g [], some (vs, _) => if args.size = argTypes.size ∧ o.dst.all (fun d => decide (d < s.n)) then
        (match E.orc g vs with
        | some v => some v
        | none => match startS E g vs [] with
          | some (k0, s0) => (ev k0 s0).map fun r => setl (setF E g o.dst s) r.1
          | none => none)
      else none
    | _, _ => none
  | _ => (evV E.P (E.H s.f) (o.dst.getD 0) o.type o.op s).map (·.1)
def setT (t : Nat → V) (D : List Nat) (d : Option Nat) (v : V) : Nat → V := fun x => if d = some x then v else if memN x D then (t x).view else t x
def St.setX (s : St) (H : Hint) (o : Oper) (v : V) : St := { s with t := setT s.t (drops H o) o.dst v }
def lval (E : Env) (o : Oper) (s : St) : Option V := (evV E.P (E.H s.f) (o.dst.getD 0) o.type o.op s).map (·.1)

def edges (o : Oper) : List Nat := (o.after.toList.filter (Region.binds .any)).map (·.on)
/-- does a come before i by the edges -/
def prec (all : Array Oper) : Nat → Nat → Nat → Bool
  | 0, _, _ => false
  | n + 1, a, i => match all[i]? with
    | some o => (edges o).any fun e => e == a || prec all n a e
    | none => false
def apartL (l m : List Nat) : Bool := l.all fun x => !memN x m
def commOk (P : Program) (H : Hint) (all : Array Oper) (a i : Nat) : Bool := match all[a]?, all[i]? with
  | some x, some y => ((isX P H x && (isX P H y || isL H y || isW H y)) || (isL H x && (isX P H y || isL H y || isW H y)) || (isW H x && isX P H y)) &&
      apartL (chg H x) (looks all y ++ chg H y) && apartL (chg H y) (looks all x ++ chg H x)
  | _, _ => false
def inDst (s : St) (o : Oper) : Bool := o.dst.all fun d => decide (d < s.n)
open Classical in
/-- the values read before are what is read now -/
noncomputable def still (E : Env) (all : Array Oper) (i : Nat) (s : St) : List (Nat × V) → Bool
  | [] => true
  | (k, v) :: l => (prec all all.size k i || match all[k]? with
    | some o => if lval E o s = some v then true else false
    | none => false) && still E all i s l
noncomputable def dstep (E : Env) (ev : Run) (all : Array Oper) (i : Nat) (s : St) (done : List (Nat × V)) : Option (St × List (Nat × V)) := match all[i]? with
  | none => none
  | some o => match guardS all o s with
    | none => none
    | some false => some (s.putO o.dst (.tup []), done)
    | some true =>
      if isX E.P (E.H s.f) o then (if dynX E.P o s && inDst s o then (xval E ev o s).map fun v => (s.setX (E.H s.f) o v, done) else none)
      else if isL (E.H s.f) o then (if inDst s o then (lval E o s).map fun v => (s.setX (E.H s.f) o v, (i, v) :: done) else none)
      else match stepOV E ev o s with
        | some s1 => if still E all i s1 done then some (s1, done) else none
        | none => none
noncomputable def drun (E : Env) (ev : Run) (all : Array Oper) : List Nat → St → List (Nat × V) → Option St
  | [], s, _ => some s
  | i :: c, s, done => (dstep E ev all i s done).bind fun r => drun E ev all c r.1 r.2
/-- the order in which a region is read -/
def orderOf (H : Hint) (id n : Nat) : List Nat := ((H.orders.find? (·.1 == id)).map (·.2)).getD (List.range n)
def linOk (all : Array Oper) : List Nat → List Nat → Bool
  | _, [] => true
  | seen, i :: c => (match all[i]? with
    | some o => (edges o).all fun e => memN e seen
    | none => false) && !memN i seen && linOk all (i :: seen) c
/-- of two, the first before the second: by the edges, or they may be exchanged; and what the first read is read the same behind the second -/
def pairOk (P : Program) (H : Hint) (all : Array Oper) (a i : Nat) : Bool := (prec all all.size a i || commOk P H all a i) && (match all[a]?, all[i]? with
  | some x, some y => !isL H x || apartL (chg H y) (looks all x)
  | _, _ => false)
def selfOk (H : Hint) (all : Array Oper) (a : Nat) : Bool := match all[a]? with
  | some x => !isL H x || apartL (chg H x) (looks all x)
  | none => false
def pairsOk (P : Program) (H : Hint) (all : Array Oper) : List Nat → Bool
  | [] => true
  | a :: c => selfOk H all a && c.all (pairOk P H all a) && pairsOk P H all c
def drawOk (P : Program) (H : Hint) (all : Array Oper) (c : List Nat) : Bool :=
  c.length == all.size && ((List.range all.size).all fun i => memN i c) && linOk all [] c && pairsOk P H all c

def heldP (s : St) (objs : List Nat) : V → Bool
  | .ptr lv t _ => lv != s.lv || memN t objs
  | v => pureC v
def canonV (s : St) (objs : List Nat) (v : V) : Option V := match v with
  | .aref lv t n => if lv = s.lv ∧ memN t objs = false then tree (s.frz (.aref lv t n)) (.aref lv t n) else some v
  | .ptr lv t off => if lv = s.lv ∧ memN t objs = false then none else some v
  | .mp lv t => if lv = s.lv ∧ memN t objs = false then none else some v
  | .agg l => if (l.map V.viewC).all pureC then some v else none
  | .imp l => some v
  | .uq sz l => some v
  | .fn f caps => if caps.all (heldP s objs) then some v else none
  | v => if pureC v.viewC then some v else none
def keepT (s : St) (objs : List Nat) : List Nat → Option (Nat → V)
  | [] => some e0
  | t :: l => match canonV s objs (s.t t), keepT s objs l with
    | some v, some f => some (upd f t v)
    | _, _ => none
def keepO (s : St) (objs : List Nat) : Ob → Option Ob
  | .box cs => (mapOpt (canonV s objs) cs).map .box
  | ob => some ob
def keepB (s : St) (objs : List Nat) : List Nat → Option (Nat → Option Ob)
  | [] => some n0
  | t :: l => match (s.b t).bind (keepO s objs), keepB s objs l with
    | some ob, some f => some (upd f t (some ob))
    | _, _ => none
def hintAt (H : Hint) : List It → LoopHint
  | .blk i :: _ => (H.loops.find? (·.blk == i)).getD ⟨0, [], []⟩
  | _ => ⟨0, [], []⟩
def canon (s : St) (h : LoopHint) : Option St := match keepT s h.objs h.keep, keepB s h.objs h.objs with
  | some f, some g => some { s with t := f, b := g }
  | _, _ => none

def stepI (E : Env) : List It → St → Out
  | [], s => match endV E.P s with
    | some (v, s1) => .done v s1.o
    | none => .fail
  | .blk _ :: k, s => .go k s
  | .ops [] _ :: k, s => .go k s
  | .ops (o :: l) all :: k, s =>
    let run : Out := match o.op with
      | .call { callee := .value f, args, argTypes } => callOp E o.dst f args argTypes (.ops l all :: k) s
      | _ => match evOp E.P (E.H s.f) o s with
        | some s' => .go (.ops l all :: k) s'
        | none => .fail
    match o.guard with
    | none => run
    | some (j, want) => match ((all[j]?).bind (·.dst)).map s.t with
      | some (.bool b) => if b = want then run else .go (.ops l all :: k) (s.putO o.dst (.tup []))
      | some (.tup []) => .go (.ops l all :: k) (s.putO o.dst (.tup []))
      | _ => .fail
  | .lp c :: k, s => match canon s (hintAt (E.H s.f) k) with
    | some s' => .go (.code c :: .lp c :: k) s'
    | none => .fail
  | .code c :: k, s => match c with
    | .skip => .go k s
    | .region id ops dr => if dr = false then .go (.ops ops.toList ops :: k) s else if drawOk E.P (E.H s.f) ops (orderOf (E.H s.f) id ops.size) then .draw ops (orderOf (E.H s.f) id ops.size) k s else .fail
    | .seq a b => .go (.code a :: .code b :: k) s
    | .cond x a b => match s.see E.P 0 x with
      | .bool v => if v then .go (.code a :: k) s else .go (.code b :: k) s
      | _ => .fail
    | .block i c => .go (.code c :: .blk i :: k) s
    | .loop c => .go (.lp c :: k) s
    | .exit i => match outOf i k with
      | some k' => .go k' s
      | none => .fail
    | .ret => .go [] s
    | _ => .fail

noncomputable def evI (E : Env) : Nat → List It → St → Option (V × List (Nat → Option Ob))
  | 0, _, _ => none
  | n + 1, its, s => match stepI E its s with
    | .go k s' => evI E n k s'
    | .done v o => some (v, o)
    | .fail => none
    | .draw ops c k s' => match drun E (evI E n) ops c s' [] with
      | some s2 => evI E n k s2
      | none => none
    | .call f args outer plain d k s' => match startS E f args outer with
      | none => none
      | some (k0, s0) => match evI E n k0 s0 with
        | none => none
        | some r => evI E n k (backS s' plain d r.1 r.2)

def RunLe (ev ev' : Run) : Prop := ∀ its s r, ev its s = some r → ev' its s = some r
theorem evCallV_mono {E : Env} {ev ev' : Run} (h : RunLe ev ev') {out : Out} {s' : St} (hs : evCallV E ev out = some s') : evCallV E ev' out = some s' := by
  cases out with
  | go k s1 => exact hs
  | done v o => exact hs
  | draw ops c k s1 => exact hs
  | fail => exact hs
  | call f args outer plain d k s1 =>
    unfold evCallV at hs ⊢
    dsimp only at hs ⊢
    split at hs
    · cases hs
    · split at hs
      · cases hs
      · rename_i h1
        rw [h _ _ _ h1]
        exact hs
theorem stepOV_mono {E : Env} {ev ev' : Run} (h : RunLe ev ev') {o : Oper} {s s' : St} (hs : stepOV E ev o s = some s') : stepOV E ev' o s = some s' := by
  unfold stepOV at hs ⊢
  split
  · rename_i hop
    rw [hop] at hs
    exact evCallV_mono h hs
  · rename_i hne
    split at hs
    · rename_i e; exact absurd e (hne _ _ _)
    · exact hs
theorem xval_mono {E : Env} {ev ev' : Run} (h : RunLe ev ev') {o : Oper} {s : St} {v : V} (hs : xval E ev o s = some v) : xval E ev' o s = some v := by
  unfold xval at hs ⊢
  split
  · rename_i hop
    rw [hop] at hs
    exact hs
  · rename_i f args tys hop
    rw [hop] at hs
    dsimp only at hs
    split
    · rename_i g vs sx h1 h2
      rw [h1, h2] at hs
      dsimp only at hs
      split
      · rename_i hc
        rw [if_pos hc] at hs
        split
        · rename_i hv; rw [hv] at hs; exact hs
        · rename_i hv
          rw [hv] at hs
          dsimp only at hs
          split
          · rename_i h0
            rw [h0] at hs
            obtain ⟨r, hr, he⟩ := Option.map_eq_some_iff.1 hs
            rw [h _ _ _ hr]
            exact congrArg some he
          · rename_i h0; rw [h0] at hs; exact hs
      · rename_i hc; rw [if_neg hc] at hs; exact hs
    · rename_i h1
      split at hs
      · rename_i e1 e2; exact absurd e2 (h1 _ _ _ e1)
      · exact hs
  · rename_i h1 h2
    split at hs
    · rename_i e; exact absurd e (h1 _ _)
    · rename_i e; exact absurd e (h2 _ _ _)
    · exact hs
theorem dstep_mono {E : Env} {ev ev' : Run} (h : RunLe ev ev') {all : Array Oper} {i : Nat} {s : St} {done : List (Nat × V)} {r} (hs : dstep E ev all i s done = some r) : dstep E ev' all i s done = some r := by
  unfold dstep at hs ⊢
  split
  · rename_i e; rw [e] at hs; exact hs
  · rename_i o e
    rw [e] at hs
    dsimp only at hs
    split
    · rename_i g; rw [g] at hs; exact hs
    · rename_i g; rw [g] at hs; exact hs
    · rename_i g
      rw [g] at hs
      dsimp only at hs
      by_cases hx : isX E.P (E.H s.f) o = true
      · rw [if_pos hx] at hs ⊢
        by_cases hd : (dynX E.P o s && inDst s o) = true
        · rw [if_pos hd] at hs ⊢
          obtain ⟨v, hv, he⟩ := Option.map_eq_some_iff.1 hs
          rw [xval_mono h hv]
          exact congrArg some he
        · rw [if_neg hd] at hs; cases hs
      · rw [if_neg hx] at hs ⊢
        by_cases hl : isL (E.H s.f) o = true
        · rw [if_pos hl] at hs ⊢; exact hs
        · rw [if_neg hl] at hs ⊢
          split at hs
          · rename_i s1 h1
            rw [stepOV_mono h h1]
            exact hs
          · cases hs
theorem drun_mono {E : Env} {ev ev' : Run} (h : RunLe ev ev') {all : Array Oper} : ∀ {c : List Nat} {s : St} {done : List (Nat × V)} {r}, drun E ev all c s done = some r → drun E ev' all c s done = some r := by
  intro c
  induction c with
  | nil => intro s done r hs; exact hs
  | cons i c ih =>
    intro s done r hs
    obtain ⟨x, h1, h2⟩ := Option.bind_eq_some_iff.1 hs
    exact Option.bind_eq_some_iff.2 ⟨x, dstep_mono h h1, ih h2⟩
/-- one run alone is asked for -/
theorem dstep_one {E : Env} {evs : Nat → Run} {ev : Run} (hup : ∀ n, RunLe (evs n) (evs (n + 1))) (hl : ∀ its s r, ev its s = some r → ∃ n, evs n its s = some r) {all : Array Oper} {i : Nat} {s : St} {done : List (Nat × V)} {r} (hs : dstep E ev all i s done = some r) : ∃ n, dstep E (evs n) all i s done = some r := by
  have hO : ∀ {o : Oper} {s1 : St}, stepOV E ev o s = some s1 → ∃ n, stepOV E (evs n) o s = some s1 := by
    intro o s1 h
    unfold stepOV at h
    split at h
    · rename_i f args tys hop
      have : ∀ n, stepOV E (evs n) o s = evCallV E (evs n) (callOp E o.dst f args tys [] s) := by intro n; unfold stepOV; rw [hop]
      simp only [this]
      cases hc : callOp E o.dst f args tys [] s with
      | go k s2 => rw [hc] at h; exact ⟨0, h⟩
      | done v o => rw [hc] at h; exact ⟨0, h⟩
      | draw _ _ _ _ => rw [hc] at h; exact ⟨0, h⟩
      | fail => rw [hc] at h; exact ⟨0, h⟩
      | call f args outer plain d k s2 =>
        rw [hc] at h
        unfold evCallV at h ⊢
        dsimp only at h ⊢
        split at h
        · cases h
        · split at h
          · cases h
          · rename_i h1
            obtain ⟨n, hn⟩ := hl _ _ _ h1
            exact ⟨n, by rw [hn]; exact h⟩
    · rename_i hne
      exact ⟨0, by
        unfold stepOV
        split
        · rename_i e; exact absurd e (hne _ _ _)
        · exact h⟩
  have hX : ∀ {o : Oper} {v : V}, xval E ev o s = some v → ∃ n, xval E (evs n) o s = some v := by
    intro o v h
    unfold xval at h
    split at h
    · rename_i hop
      exact ⟨0, by unfold xval; rw [hop]; exact h⟩
    · rename_i f args tys hop
      have : ∀ n, xval E (evs n) o s = match s.see E.P 0 f, s.args E.P (tys.toList.zip args.toList) with
        | .fn g [], some (vs, _) => if args.size = tys.size ∧ o.dst.all (fun d => decide (d < s.n)) then
            (match E.orc g vs with
            | some v => some v
            | none => match startS E g vs [] with
              | some (k0, s0) => (evs n k0 s0).map fun r => setl (setF E g o.dst s) r.1
              | none => none)
          else none
        | _, _ => none := by intro n; unfold xval; rw [hop]
      simp only [this]
      split at h
      · rename_i h1 h2
        split at h
        · rename_i hc
          split at h
          · rename_i hv; exact ⟨0, by rw [if_pos hc]; exact h⟩
          · rename_i hv
            split at h
            · rename_i h0
              obtain ⟨r, hr, he⟩ := Option.map_eq_some_iff.1 h
              obtain ⟨n, hn⟩ := hl _ _ _ hr
              exact ⟨n, by rw [if_pos hc]; rw [hn]; exact congrArg some he⟩
            · cases h
        · cases h
      · cases h
    · rename_i h1 h2
      exact ⟨0, by
        unfold xval
        split
        · rename_i e; exact absurd e (h1 _ _)
        · rename_i e; exact absurd e (h2 _ _ _)
        · exact h⟩
  unfold dstep at hs
  split at hs
  · cases hs
  · rename_i o e
    have : ∀ n, dstep E (evs n) all i s done = match guardS all o s with
      | none => none
      | some false => some (s.putO o.dst (.tup []), done)
      | some true =>
        if isX E.P (E.H s.f) o then (if dynX E.P o s && inDst s o then (xval E (evs n) o s).map fun v => (s.setX (E.H s.f) o v, done) else none)
        else if isL (E.H s.f) o then (if inDst s o then (lval E o s).map fun v => (s.setX (E.H s.f) o v, (i, v) :: done) else none)
        else match stepOV E (evs n) o s with
          | some s1 => if still E all i s1 done then some (s1, done) else none
          | none => none := by intro n; unfold dstep; rw [e]
    simp only [this]
    split at hs
    · cases hs
    · exact ⟨0, hs⟩
    · by_cases hx : isX E.P (E.H s.f) o = true
      · simp only [if_pos hx] at hs ⊢
        by_cases hd : (dynX E.P o s && inDst s o) = true
        · simp only [if_pos hd] at hs ⊢
          obtain ⟨v, hv, he⟩ := Option.map_eq_some_iff.1 hs
          obtain ⟨n, hn⟩ := hX hv
          exact ⟨n, by rw [hn]; exact congrArg some he⟩
        · rw [if_neg hd] at hs; cases hs
      · simp only [if_neg hx] at hs ⊢
        by_cases hl' : isL (E.H s.f) o = true
        · simp only [if_pos hl'] at hs ⊢; exact ⟨0, hs⟩
        · simp only [if_neg hl'] at hs ⊢
          split at hs
          · rename_i s1 h1
            obtain ⟨n, hn⟩ := hO h1
            exact ⟨n, by rw [hn]; exact hs⟩
          · cases hs
theorem RunLe.up {evs : Nat → Run} (hup : ∀ n, RunLe (evs n) (evs (n + 1))) {n m : Nat} (h : n ≤ m) : RunLe (evs n) (evs m) := by
  induction h with
  | refl => exact fun _ _ _ h => h
  | step _ ih => exact fun its s r hr => hup _ _ _ _ (ih _ _ _ hr)
theorem drun_one {E : Env} {evs : Nat → Run} {ev : Run} (hup : ∀ n, RunLe (evs n) (evs (n + 1))) (hl : ∀ its s r, ev its s = some r → ∃ n, evs n its s = some r) {all : Array Oper} : ∀ {c : List Nat} {s : St} {done : List (Nat × V)} {r}, drun E ev all c s done = some r → ∃ n, drun E (evs n) all c s done = some r := by
  intro c
  induction c with
  | nil => intro s done r h; exact ⟨0, h⟩
  | cons i c ih =>
    intro s done r h
    obtain ⟨x, h1, h2⟩ := Option.bind_eq_some_iff.1 h
    obtain ⟨n, hn⟩ := dstep_one hup hl h1
    obtain ⟨m, hm⟩ := ih h2
    exact ⟨max n m, Option.bind_eq_some_iff.2 ⟨x, dstep_mono (RunLe.up hup (Nat.le_max_left n m)) hn, drun_mono (RunLe.up hup (Nat.le_max_right n m)) hm⟩⟩

theorem evI_mono (E : Env) : ∀ n its s r, evI E n its s = some r → evI E (n + 1) its s = some r := by
  intro n
  induction n with
  | zero => intro its s r h; simp [evI] at h
  | succ n ih =>
    intro its s r h
    rw [evI] at h ⊢
    cases hs : stepI E its s with
    | go k s' => rw [hs] at h; exact ih _ _ _ h
    | done v o => rw [hs] at h; exact h
    | fail => rw [hs] at h; exact h
    | draw ops c k s' =>
      rw [hs] at h
      dsimp only at h ⊢
      cases h0 : drun E (evI E n) ops c s' [] with
      | none => rw [h0] at h; cases h
      | some s2 =>
        rw [h0] at h
        rw [drun_mono (fun its s r hr => ih its s r hr) h0]
        exact ih _ _ _ h
    | call f args outer plain d k s' =>
      rw [hs] at h
      dsimp only at h ⊢
      cases h0 : startS E f args outer with
      | none => rw [h0] at h; exact h
      | some x =>
        obtain ⟨k0, s0⟩ := x
        rw [h0] at h
        dsimp only at h ⊢
        cases h1 : evI E n k0 s0 with
        | none => rw [h1] at h; cases h
        | some x =>
          rw [h1] at h
          rw [ih _ _ _ h1]
          exact ih _ _ _ h
theorem evI_le (E : Env) {n m : Nat} (h : n ≤ m) {its s r} (hr : evI E n its s = some r) : evI E m its s = some r := by
  induction h with
  | refl => exact hr
  | step _ ih => exact evI_mono E _ _ _ _ ih

open Classical in
/-- what a run comes to, however many steps it takes -/
noncomputable def lim (E : Env) (its : List It) (s : St) : Option (V × List (Nat → Option Ob)) :=
  if h : ∃ r, ∃ n, evI E n its s = some r then some h.choose else none
noncomputable def run (E : Env) (f : Nat) (args : List V) (outer : List (Nat → Option Ob)) : Option (V × List (Nat → Option Ob)) :=
  match startS E f args outer with
  | some x => lim E x.1 x.2
  | none => none

theorem lim_iff {E : Env} {its s r} : lim E its s = some r ↔ ∃ n, evI E n its s = some r := by
  unfold lim
  constructor
  · intro h
    split at h
    · rename_i hx
      obtain rfl := Option.some.inj h
      exact hx.choose_spec
    · cases h
  · rintro ⟨n, hn⟩
    have hx : ∃ r, ∃ n, evI E n its s = some r := ⟨r, n, hn⟩
    rw [dif_pos hx]
    obtain ⟨m, hm⟩ := hx.choose_spec
    have h1 := evI_le E (Nat.le_max_left n m) hn
    have h2 := evI_le E (Nat.le_max_right n m) hm
    rw [h1] at h2
    exact h2.symm
theorem lim_ext {E : Env} {its s its' s'} (h : ∀ r, (∃ n, evI E n its s = some r) ↔ ∃ n, evI E n its' s' = some r) : lim E its s = lim E its' s' := by
  cases hx : lim E its s with
  | some r => exact ((lim_iff.2 ((h r).1 (lim_iff.1 hx)))).symm
  | none =>
    cases hy : lim E its' s' with
    | none => rfl
    | some r => rw [lim_iff.2 ((h r).2 (lim_iff.1 hy))] at hx; cases hx

/-- the equation of a step -/
noncomputable def Out.lim (E : Env) : Out → Option (V × List (Nat → Option Ob))
  | .go k s => Ev.lim E k s
  | .done v o => some (v, o)
  | .fail => none
  | .draw ops c k s => (drun E (Ev.lim E) ops c s []).bind fun s2 => Ev.lim E k s2
  | .call f args outer plain d k s => (run E f args outer).bind fun r => Ev.lim E k (backS s plain d r.1 r.2)
theorem lim_step (E : Env) (its : List It) (s : St) : lim E its s = (stepI E its s).lim E := by
  cases hs : stepI E its s with
  | go k s' =>
    refine lim_ext fun r => ⟨?_, ?_⟩
    · rintro ⟨n, hn⟩
      cases n with
      | zero => simp [evI] at hn
      | succ n => rw [evI, hs] at hn; exact ⟨n, hn⟩
    · rintro ⟨n, hn⟩
      exact ⟨n + 1, by rw [evI, hs]; exact hn⟩
  | done v o => exact lim_iff.2 ⟨1, by rw [evI, hs]⟩
  | fail =>
    cases hx : lim E its s with
    | none => rfl
    | some r =>
      obtain ⟨n, hn⟩ := lim_iff.1 hx
      cases n with
      | zero => simp [evI] at hn
      | succ n => rw [evI, hs] at hn; cases hn
  | draw ops c k s' =>
    have hup : ∀ n, RunLe (evI E n) (evI E (n + 1)) := fun n its s r => evI_mono E n its s r
    show _ = (drun E (Ev.lim E) ops c s' []).bind fun s2 => Ev.lim E k s2
    have h1 : ∀ s2, drun E (Ev.lim E) ops c s' [] = some s2 ↔ ∃ n, drun E (evI E n) ops c s' [] = some s2 := fun s2 =>
      ⟨fun h => drun_one hup (fun its s r h => lim_iff.1 h) h, fun ⟨n, hn⟩ => drun_mono (fun its s r h => lim_iff.2 ⟨n, h⟩) hn⟩
    cases h2 : drun E (Ev.lim E) ops c s' [] with
    | none =>
      cases hx : Ev.lim E its s with
      | none => rfl
      | some r =>
        obtain ⟨n, hn⟩ := lim_iff.1 hx
        cases n with
        | zero => simp [evI] at hn
        | succ n =>
          rw [evI, hs] at hn
          dsimp only at hn
          split at hn
          · rename_i s2 h3
            rw [(h1 s2).2 ⟨n, h3⟩] at h2
            cases h2
          · cases hn
    | some s2 =>
      obtain ⟨m, hm⟩ := (h1 s2).1 h2
      refine lim_ext fun r => ⟨?_, ?_⟩
      · rintro ⟨n, hn⟩
        cases n with
        | zero => simp [evI] at hn
        | succ n =>
          rw [evI, hs] at hn
          dsimp only at hn
          split at hn
          · rename_i s3 h3
            have := (h1 s3).2 ⟨n, h3⟩
            rw [h2] at this
            obtain rfl := Option.some.inj this
            exact ⟨n, hn⟩
          · cases hn
      · rintro ⟨n, hn⟩
        refine ⟨max n m + 1, ?_⟩
        rw [evI, hs]
        dsimp only
        rw [drun_mono (RunLe.up hup (Nat.le_max_right n m)) hm]
        exact evI_le E (Nat.le_max_left n m) hn
  | call f args outer plain d k s' =>
    show _ = (run E f args outer).bind _
    unfold run
    cases h0 : startS E f args outer with
    | none =>
      cases hx : lim E its s with
      | none => rfl
      | some r =>
        obtain ⟨n, hn⟩ := lim_iff.1 hx
        cases n with
        | zero => simp [evI] at hn
        | succ n => rw [evI, hs] at hn; dsimp only at hn; rw [h0] at hn; cases hn
    | some x =>
      obtain ⟨k0, s0⟩ := x
      dsimp only
      cases h1 : lim E k0 s0 with
      | none =>
        cases hx : lim E its s with
        | none => rfl
        | some r =>
          obtain ⟨n, hn⟩ := lim_iff.1 hx
          cases n with
          | zero => simp [evI] at hn
          | succ n =>
            rw [evI, hs] at hn
            dsimp only at hn
            rw [h0] at hn
            dsimp only at hn
            cases h2 : evI E n k0 s0 with
            | none => rw [h2] at hn; cases hn
            | some y => rw [lim_iff.2 ⟨n, h2⟩] at h1; cases h1
      | some y =>
        obtain ⟨m, hm⟩ := lim_iff.1 h1
        refine lim_ext fun r => ⟨?_, ?_⟩
        · rintro ⟨n, hn⟩
          cases n with
          | zero => simp [evI] at hn
          | succ n =>
            rw [evI, hs] at hn
            dsimp only at hn
            rw [h0] at hn
            dsimp only at hn
            cases h2 : evI E n k0 s0 with
            | none => rw [h2] at hn; cases hn
            | some z =>
              rw [h2] at hn
              have : z = y := by
                have e1 := evI_le E (Nat.le_max_left n m) h2
                have e2 := evI_le E (Nat.le_max_right n m) hm
                rw [e1] at e2
                exact Option.some.inj e2
              subst this
              exact ⟨n, hn⟩
        · rintro ⟨n, hn⟩
          refine ⟨max n m + 1, ?_⟩
          rw [evI, hs]
          dsimp only
          rw [h0]
          dsimp only
          rw [evI_le E (Nat.le_max_right n m) hm]
          exact evI_le E (Nat.le_max_left n m) hn
/-- a round of a loop -/
noncomputable def iter (E : Env) (c : Code) (k : List It) (s : St) : Option (V × List (Nat → Option Ob)) := lim E (.code c :: .lp c :: k) s

end Go.Ev
namespace Go.Ev
open Go
set_option linter.unusedVariables false

inductive Pl where
  | tm (l t c j : Nat)
  | ob (l t : Nat)
  | cl (l t j : Nat)
  | rs (c j : Nat)
  deriving DecidableEq

/-- what never changes (cells), where objects lie, whose a block is -/
structure Gh where
  S : Nat → Nat → Option Value
  β : Nat → Nat → Option Nat
  ω : Nat → Option Pl

inductive Tr (S : Nat → Nat → Option Value) (β : Nat → Nat → Option Nat) : V → Value → Prop
  | undef (x : Value) : Tr S β .undef x
  | bool (b : Bool) : Tr S β (.bool b) (.bool b)
  | int (k : IntKind) (n : Int) : Tr S β (.int k n) (.int k n)
  | str (s : ByteArray) : Tr S β (.str s) (.string s)
  | slc0 (sz : Nat) (a : Option Addr) (cap : Nat) : Tr S β (.slc false sz []) (.slice a 0 cap)
  | slc (sz : Nat) (l : List V) (b o cap : Nat) (c : Nat → Nat → Value) (hc : l.length ≤ cap) (hs : ∀ x ∈ l, x.flat.length = sz ∧ x.flat.all pureC = true)
      (hS : ∀ i j, i < l.length → j < sz → S b (o + i * sz + j) = some (c i j))
      (hT : ∀ i j, i < l.length → j < sz → Tr S β ((l.getD i .undef).flat.getD j .undef) (c i j)) : Tr S β (.slc false sz l) (.slice (some ⟨b, o, none⟩) l.length cap)
  | agg (l : List V) (cs : Array Value) (hl : l.length = cs.size) (hT : ∀ i, i < l.length → Tr S β (l.getD i .undef) (cs.getD i undef)) : Tr S β (.agg l) (.agg cs)
  | ptr (lv t off g : Nat) (h : β lv t = some g) : Tr S β (.ptr lv t off) (.pointer (some ⟨g, off, none⟩))
  | imp (l : List V) (b o : Nat) (c : Nat → Value) (hp : l.all pureC = true) (hS : ∀ j, j < l.length → S b (o + j) = some (c j)) (hT : ∀ j, j < l.length → Tr S β (l.getD j .undef) (c j)) : Tr S β (.imp l) (.pointer (some ⟨b, o, none⟩))
  | eptr (lv t i g sz : Nat) (h : β lv t = some g) : Tr S β (.eptr lv t i sz) (.pointer (some ⟨g, i * sz, none⟩))
  | aref (lv t n g cap : Nat) (h : β lv t = some g) (hc : n ≤ cap) : Tr S β (.aref lv t n) (.slice (some ⟨g, 0, none⟩) n cap)
  | mp (lv t g : Nat) (h : β lv t = some g) : Tr S β (.mp lv t) (.map (some g))
  | fn (f : Nat) (caps : List V) (cs : Array Value) (hl : caps.length = cs.size) (hT : ∀ i, i < caps.length → Tr S β (caps.getD i .undef) (cs.getD i undef)) : Tr S β (.fn f caps) (.func (.func f) #[] cs)
  | nilp : Tr S β .nilp (.pointer none)
  | nilfn : Tr S β .nilfn .nilFunc

theorem Tr.mono {S S' β β'} (hS : ∀ g j c, S g j = some c → S' g j = some c) (hβ : ∀ l t g, β l t = some g → β' l t = some g) {v : V} {x : Value} (h : Tr S β v x) : Tr S' β' v x := by
  induction h with
  | undef x => exact .undef x
  | bool b => exact .bool b
  | int k n => exact .int k n
  | str s => exact .str s
  | slc0 sz a cap => exact .slc0 sz a cap
  | slc sz l b o cap c hc hs hS0 hT ih => exact .slc sz l b o cap c hc hs (fun i j hi hj => hS _ _ _ (hS0 i j hi hj)) ih
  | agg l cs hl hT ih => exact .agg l cs hl ih
  | ptr lv t off g h => exact .ptr lv t off g (hβ _ _ _ h)
  | imp l b o c hp hS0 hT ih => exact .imp l b o c hp (fun j hj => hS _ _ _ (hS0 j hj)) ih
  | eptr lv t i g sz h => exact .eptr lv t i g sz (hβ _ _ _ h)
  | aref lv t n g cap h hc => exact .aref lv t n g cap (hβ _ _ _ h) hc
  | mp lv t g h => exact .mp lv t g (hβ _ _ _ h)
  | fn f caps cs hl hT ih => exact .fn f caps cs hl ih
  | nilp => exact .nilp
  | nilfn => exact .nilfn

/-- a list that nobody else sees: its block is owned, and nothing is said of it for good -/
def OwnU (G : Gh) (w : World) (p : Pl) (sz : Nat) (l : List V) (x : Value) : Prop :=
  ∃ a cap, x = .slice a l.length cap ∧ ((l = [] ∧ cap = 0) ∨ ∃ g cs ty, a = some ⟨g, 0, none⟩ ∧ G.ω g = some p ∧ w.heap[g]? = some (.cells cs ty (0, 0)) ∧ cs.size = cap * sz ∧ l.length ≤ cap ∧
    (∀ x ∈ l, x.flat.length = sz ∧ x.flat.all pureC = true) ∧ (∀ i j, i < l.length → j < sz → Tr G.S G.β ((l.getD i .undef).flat.getD j .undef) (cs.getD (i * sz + j) undef)) ∧ ∀ j, G.S g j = none)
/-- a cell that may own its list's tail -/
def OwnC (G : Gh) (w : World) (p : Pl) : V → Value → Prop
  | .slc true sz l, x => Tr G.S G.β (.slc false sz l) x ∧ ∃ a cap, x = .slice a l.length cap ∧ (cap = l.length ∨
      ∃ g cs ty, a = some ⟨g, 0, none⟩ ∧ G.ω g = some p ∧ w.heap[g]? = some (.cells cs ty (0, 0)) ∧ cs.size = cap * sz ∧ ∀ j, l.length * sz ≤ j → G.S g j = none)
  | .uq sz l, x => OwnU G w p sz l x
  | v, x => Tr G.S G.β v x
def OwnV (G : Gh) (w : World) (p : Nat → Pl) : V → Value → Prop
  | .agg l, x => ∃ cs, x = .agg cs ∧ l.length = cs.size ∧ ∀ j, j < l.length → OwnC G w (p j) (l.getD j .undef) (cs.getD j undef)
  | v, x => OwnC G w (p 0) v x
def OwnS (G : Gh) (w : World) (p : Nat → Nat → Pl) : V → Value → Prop
  | .tup l, x => ∃ vs, x = .tuple vs ∧ l.length = vs.size ∧ ∀ i, i < l.length → OwnV G w (p i) (l.getD i .undef) (vs.getD i undef)
  | v, x => OwnV G w (p 0) v x

def ObR (G : Gh) (w : World) (lv t g : Nat) : Ob → Prop
  | .box cells => ∃ cs ty, w.heap[g]? = some (.cells cs ty (0, 0)) ∧ cells.length = cs.size ∧ (∀ j, G.S g j = none) ∧ ∀ j, j < cells.length → OwnC G w (.cl lv t j) (cells.getD j .undef) (cs.getD j undef)
  | .arr fz sz l => ∃ cs ty, w.heap[g]? = some (.cells cs ty (0, 0)) ∧ l.length * sz ≤ cs.size ∧ (∀ x ∈ l, x.flat.length = sz ∧ x.flat.all pureC = true) ∧
      (∀ i j, i < l.length → j < sz → Tr G.S G.β ((l.getD i .undef).flat.getD j .undef) (cs.getD (i * sz + j) undef)) ∧
      (if fz then ∀ j, j < l.length * sz → G.S g j = some (cs.getD j undef) else ∀ j, G.S g j = none)
  | .map es => ∃ en ck, w.heap[g]? = some (.map en ck) ∧ es.length = en.size ∧ (∀ j, G.S g j = none) ∧ (∀ x ∈ es, x.1.flat.all pureC = true ∧ x.2.flat.all pureC = true) ∧ ∀ i, i < es.length → Tr G.S G.β (es.getD i default).1 (en.getD i default).key ∧ Tr G.S G.β (es.getD i default).2 (en.getD i default).val

structure Rel (G : Gh) (s : St) (a : Act) (w : World) : Prop where
  size : a.tmps.size = s.n
  defers : a.defers = []
  slot : ∀ t, OwnS G w (.tm s.lv t) (s.t t) (a.tmps.getD t undef)
  obj : ∀ lv t ob, s.ob lv t = some ob → ∃ g, G.β lv t = some g ∧ G.ω g = some (.ob lv t) ∧ ObR G w lv t g ob
  dom : ∀ lv t g, G.β lv t = some g → ∃ ob, s.ob lv t = some ob
  imm : ∀ g j c, G.S g j = some c → w.cell? ⟨g, j, none⟩ = some c
  lim : ∀ g p, G.ω g = some p → g < w.heap.size

def Mine (lv : Nat) : Pl → Prop
  | .tm l _ _ _ => lv ≤ l
  | _ => True

/-- what a caller may go on to say: all that is not handed over stands as it stood -/
structure Fr (lv : Nat) (G : Gh) (w : World) (G' : Gh) (w' : World) : Prop where
  os : w'.os = w.os
  tape : w'.tape = w.tape
  output : w'.output = w.output
  size : w.heap.size ≤ w'.heap.size
  keep : ∀ g, g < w.heap.size → (∀ p, G.ω g = some p → ¬ Mine lv p) → w'.heap[g]? = w.heap[g]? ∧ G'.ω g = G.ω g ∧ ∀ j, G'.S g j = G.S g j
  imm : ∀ g j c, G.S g j = some c → G'.S g j = some c
  outer : ∀ l t, l < lv → G'.β l t = G.β l t

theorem Fr.refl (lv : Nat) (G : Gh) (w : World) : Fr lv G w G w := ⟨rfl, rfl, rfl, Nat.le_refl _, fun _ _ _ => ⟨rfl, rfl, fun _ => rfl⟩, fun _ _ _ h => h, fun _ _ _ => rfl⟩
theorem Fr.trans {lv : Nat} {G G1 G2 : Gh} {w w1 w2 : World} (h : Fr lv G w G1 w1) (k : Fr lv G1 w1 G2 w2) : Fr lv G w G2 w2 :=
  ⟨k.os.trans h.os, k.tape.trans h.tape, k.output.trans h.output, Nat.le_trans h.size k.size, fun g hg hm => by
    obtain ⟨a1, a2, a3⟩ := h.keep g hg hm
    obtain ⟨b1, b2, b3⟩ := k.keep g (Nat.lt_of_lt_of_le hg h.size) (fun p hp => hm p (a2 ▸ hp))
    exact ⟨b1.trans a1, b2.trans a2, fun j => (b3 j).trans (a3 j)⟩, fun g j c hc => k.imm g j c (h.imm g j c hc), fun l t hl => (k.outer l t hl).trans (h.outer l t hl)⟩

/-! ### moving to another world -/
structure Le (G G' : Gh) : Prop where
  S : ∀ g j c, G.S g j = some c → G'.S g j = some c
  β : ∀ l t g, G.β l t = some g → G'.β l t = some g
theorem Le.refl (G : Gh) : Le G G := ⟨fun _ _ _ h => h, fun _ _ _ h => h⟩
theorem Le.tr {G G' : Gh} (h : Le G G') {v : V} {x : Value} (k : Tr G.S G.β v x) : Tr G'.S G'.β v x := k.mono h.S h.β
/-- a block stands as it stood -/
structure Same (G : Gh) (w : World) (G' : Gh) (w' : World) (g : Nat) : Prop where
  heap : w'.heap[g]? = w.heap[g]?
  S : ∀ j, G'.S g j = G.S g j
  ω : G'.ω g = G.ω g

theorem getD_viewC (l : List V) (i : Nat) : (l.map V.viewC).getD i .undef = (l.getD i .undef).viewC := by
  simp only [List.getD_eq_getElem?_getD, List.getElem?_map]
  cases l[i]? <;> rfl
theorem OwnC.eq {G : Gh} {w : World} {p : Pl} {v : V} {x : Value} (h1 : ∀ sz l, v ≠ .slc true sz l) (h2 : ∀ sz l, v ≠ .uq sz l) : OwnC G w p v x = Tr G.S G.β v x := by
  unfold OwnC
  split
  · exact absurd rfl (h1 _ _)
  · exact absurd rfl (h2 _ _)
  · rfl
theorem OwnU.mono {G G' : Gh} {w w' : World} {p p' : Pl} {sz : Nat} {l : List V} {x : Value} (h : OwnU G w p sz l x) (hle : Le G G') (hs : ∀ g, G.ω g = some p → w'.heap[g]? = w.heap[g]? ∧ (∀ j, G'.S g j = G.S g j) ∧ G'.ω g = some p') : OwnU G' w' p' sz l x := by
  obtain ⟨a, cap, rfl, h2⟩ := h
  refine ⟨a, cap, rfl, ?_⟩
  rcases h2 with h2 | ⟨g, cs, ty, h3, h4, h5, h6, h7, h8, h9, h10⟩
  · exact .inl h2
  · obtain ⟨k1, k2, k3⟩ := hs g h4
    exact .inr ⟨g, cs, ty, h3, k3, k1.trans h5, h6, h7, h8, fun i j hi hj => hle.tr (h9 i j hi hj), fun j => (k2 j).trans (h10 j)⟩
theorem OwnC.view {G : Gh} {w : World} {p : Pl} {v : V} {x : Value} (h : OwnC G w p v x) : Tr G.S G.β v.viewC x := by
  unfold OwnC at h
  split at h
  · exact h.1
  · exact .undef _
  · rename_i hv hu
    cases v <;> try exact h
    · rename_i own sz l
      cases own
      · exact h
      · exact absurd rfl (hv _ _)
    · exact absurd rfl (hu _ _)
theorem OwnC.of_view {G : Gh} {w : World} {p : Pl} {v : V} {x : Value} (h : Tr G.S G.β v x) (hv : ∀ sz l, v ≠ .slc true sz l) : OwnC G w p v x := by
  unfold OwnC
  split
  · exact absurd rfl (hv _ _)
  · cases h
  · exact h
theorem OwnC.mono {G G' : Gh} {w w' : World} {p p' : Pl} {v : V} {x : Value} (h : OwnC G w p v x) (hle : Le G G') (hs : ∀ g, G.ω g = some p → w'.heap[g]? = w.heap[g]? ∧ (∀ j, G'.S g j = G.S g j) ∧ G'.ω g = some p') : OwnC G' w' p' v x := by
  unfold OwnC at h ⊢
  split at h
  · obtain ⟨h1, a, cap, rfl, h2⟩ := h
    refine ⟨hle.tr h1, a, cap, rfl, ?_⟩
    rcases h2 with h2 | ⟨g, cs, ty, h3, h4, h5, h6, h7⟩
    · exact .inl h2
    · obtain ⟨k1, k2, k3⟩ := hs g h4
      exact .inr ⟨g, cs, ty, h3, k3, k1.trans h5, h6, fun j hj => (k2 j).trans (h7 j hj)⟩
  · exact h.mono hle hs
  · exact hle.tr h
theorem OwnV.mono {G G' : Gh} {w w' : World} {p p' : Nat → Pl} {v : V} {x : Value} (h : OwnV G w p v x) (hle : Le G G') (hs : ∀ j g, G.ω g = some (p j) → w'.heap[g]? = w.heap[g]? ∧ (∀ j, G'.S g j = G.S g j) ∧ G'.ω g = some (p' j)) : OwnV G' w' p' v x := by
  unfold OwnV at h ⊢
  split at h
  · obtain ⟨cs, rfl, hl, hc⟩ := h
    exact ⟨cs, rfl, hl, fun j hj => (hc j hj).mono hle (hs j)⟩
  · exact OwnC.mono h hle (hs 0)
theorem OwnS.mono {G G' : Gh} {w w' : World} {p p' : Nat → Nat → Pl} {v : V} {x : Value} (h : OwnS G w p v x) (hle : Le G G') (hs : ∀ i j g, G.ω g = some (p i j) → w'.heap[g]? = w.heap[g]? ∧ (∀ j, G'.S g j = G.S g j) ∧ G'.ω g = some (p' i j)) : OwnS G' w' p' v x := by
  unfold OwnS at h ⊢
  split at h
  · obtain ⟨vs, rfl, hl, hc⟩ := h
    exact ⟨vs, rfl, hl, fun i hi => (hc i hi).mono hle (hs i)⟩
  · exact OwnV.mono h hle (hs 0)
theorem OwnV.view {G : Gh} {w : World} {p : Nat → Pl} {v : V} {x : Value} (h : OwnV G w p v x) (ht : ∀ l, v ≠ .tup l) : Tr G.S G.β v.view x := by
  unfold OwnV at h
  split at h
  · obtain ⟨cs, rfl, hl, hc⟩ := h
    refine .agg _ cs (by simpa using hl) fun i hi => ?_
    rw [getD_viewC]
    exact (hc i (by simpa using hi)).view
  · rename_i hv
    have := OwnC.view h
    cases v <;> first | exact this | exact .undef _ | exact absurd rfl (hv _) | exact absurd rfl (ht _)
theorem OwnS.view {G : Gh} {w : World} {p : Nat → Nat → Pl} {v : V} {x : Value} (h : OwnS G w p v x) : Tr G.S G.β v.view x := by
  unfold OwnS at h
  split at h
  · exact .undef _
  · rename_i hv
    exact OwnV.view h hv
theorem OwnV.of_tr {G : Gh} {w : World} {p : Nat → Pl} {v : V} {x : Value} (h : Tr G.S G.β v x) (hv : v.view = v) : OwnV G w p v x := by
  cases v
  case agg l =>
    cases h with
    | agg _ cs hl hT =>
      refine ⟨cs, rfl, hl, fun j hj => OwnC.of_view (hT j hj) ?_⟩
      intro sz m e
      simp only [V.view, V.agg.injEq] at hv
      have h1 := getD_viewC l j
      rw [hv, e] at h1
      cases h1
  case slc own sz l =>
    cases own
    · exact h
    · cases hv
  case uq => cases h
  all_goals exact h
theorem OwnS.of_tr {G : Gh} {w : World} {p : Nat → Nat → Pl} {v : V} {x : Value} (h : Tr G.S G.β v x) (hv : v.view = v) (ht : ∀ l, v ≠ .tup l) : OwnS G w p v x := by
  unfold OwnS
  split
  · exact absurd rfl (ht _)
  · exact OwnV.of_tr h hv
end Go.Ev
namespace Go.Ev
open Go
set_option linter.unusedVariables false

def Gh.ren (G : Gh) (f : Pl → Pl) : Gh := { G with ω := fun g => (G.ω g).map f }
theorem Gh.ren_le (G : Gh) (f : Pl → Pl) : Le G (G.ren f) := ⟨fun _ _ _ h => h, fun _ _ _ h => h⟩
theorem Gh.ren_le' (G : Gh) (f : Pl → Pl) : Le (G.ren f) G := ⟨fun _ _ _ h => h, fun _ _ _ h => h⟩
theorem ren_ω {G : Gh} {f : Pl → Pl} {g : Nat} {p : Pl} (h : G.ω g = some p) : (G.ren f).ω g = some (f p) := by simp [Gh.ren, h]
theorem OwnC.ren {G : Gh} {w : World} {p p' : Pl} {v : V} {x : Value} (h : OwnC G w p v x) (f : Pl → Pl) (hp : f p = p') : OwnC (G.ren f) w p' v x :=
  h.mono (G.ren_le f) fun g hg => ⟨rfl, fun _ => rfl, by rw [ren_ω hg, hp]⟩
theorem OwnV.ren {G : Gh} {w : World} {p p' : Nat → Pl} {v : V} {x : Value} (h : OwnV G w p v x) (f : Pl → Pl) (hp : ∀ j, f (p j) = p' j) : OwnV (G.ren f) w p' v x :=
  h.mono (G.ren_le f) fun j g hg => ⟨rfl, fun _ => rfl, by rw [ren_ω hg, hp]⟩
theorem OwnS.ren {G : Gh} {w : World} {p p' : Nat → Nat → Pl} {v : V} {x : Value} (h : OwnS G w p v x) (f : Pl → Pl) (hp : ∀ i j, f (p i j) = p' i j) : OwnS (G.ren f) w p' v x :=
  h.mono (G.ren_le f) fun i j g hg => ⟨rfl, fun _ => rfl, by rw [ren_ω hg, hp]⟩
theorem ObR.mono {G G' : Gh} {w w' : World} {lv t g : Nat} {ob : Ob} (h : ObR G w lv t g ob) (hle : Le G G') (hg : w'.heap[g]? = w.heap[g]? ∧ (∀ j, G'.S g j = G.S g j))
    (hs : ∀ j k, G.ω k = some (.cl lv t j) → w'.heap[k]? = w.heap[k]? ∧ (∀ j, G'.S k j = G.S k j) ∧ G'.ω k = some (.cl lv t j)) : ObR G' w' lv t g ob := by
  cases ob with
  | box cells =>
    obtain ⟨cs, ty, h1, h2, h3, h4⟩ := h
    exact ⟨cs, ty, hg.1.trans h1, h2, fun j => (hg.2 j).trans (h3 j), fun j hj => (h4 j hj).mono hle (hs j)⟩
  | arr fz sz l =>
    obtain ⟨cs, ty, h1, h2, h3, h4, h5⟩ := h
    refine ⟨cs, ty, hg.1.trans h1, h2, h3, fun i j hi hj => hle.tr (h4 i j hi hj), ?_⟩
    cases fz
    · exact fun j => (hg.2 j).trans (h5 j)
    · exact fun j hj => (hg.2 j).trans (h5 j hj)
  | map es =>
    obtain ⟨en, ck, h1, h2, h3, h5, h4⟩ := h
    exact ⟨en, ck, hg.1.trans h1, h2, fun j => (hg.2 j).trans (h3 j), h5, fun i hi => ⟨hle.tr (h4 i hi).1, hle.tr (h4 i hi).2⟩⟩
theorem ObR.ren {G : Gh} {w : World} {lv t g : Nat} {ob : Ob} (h : ObR G w lv t g ob) (f : Pl → Pl) (hp : ∀ j, f (.cl lv t j) = .cl lv t j) : ObR (G.ren f) w lv t g ob :=
  h.mono (G.ren_le f) ⟨rfl, fun _ => rfl⟩ fun j k hk => ⟨rfl, fun _ => rfl, by rw [ren_ω hk, hp]⟩

theorem ren_fr {lv : Nat} {G : Gh} {w : World} {f : Pl → Pl} (h : ∀ p, f p = p ∨ Mine lv p) : Fr lv G w (G.ren f) w := by
  refine ⟨rfl, rfl, rfl, Nat.le_refl _, fun g hg hm => ⟨rfl, ?_, fun _ => rfl⟩, fun _ _ _ h => h, fun _ _ _ => rfl⟩
  cases hω : G.ω g with
  | none => simp [Gh.ren, hω]
  | some p =>
    rw [ren_ω hω]
    rcases h p with h | h
    · rw [h]
    · exact absurd h (hm p hω)
theorem ren_lim {G : Gh} {w : World} {f : Pl → Pl} (h : ∀ g p, G.ω g = some p → g < w.heap.size) : ∀ g p, (G.ren f).ω g = some p → g < w.heap.size := by
  intro g p hp
  cases hω : G.ω g with
  | none => simp [Gh.ren, hω] at hp
  | some q => exact h g q hω

theorem V.view_view (v : V) : v.view.view = v.view := by
  cases v <;> try rfl
  simp only [V.view, List.map_map]
  congr 1
  refine List.map_congr_left fun x _ => ?_
  cases x <;> rfl
theorem V.view_tup (v : V) : ∀ l, v.view ≠ .tup l := by cases v <;> intro l h <;> cases h

def takeF (lv i : Nat) : Pl → Pl
  | .tm l t c j => if l = lv ∧ t = i then .rs c j else .tm l t c j
  | p => p
/-- an operand is handed over -/
theorem Rel.take {G : Gh} {s : St} {a : Act} {w : World} (h : Rel G s a w) (i : Nat) :
    ∃ G', Rel G' (s.put i (s.t i).view) a w ∧ OwnS G' w Pl.rs (s.t i) (a.tmps.getD i undef) ∧ Fr s.lv G w G' w ∧ (∀ c j g, G.ω g = some (.rs c j) → G'.ω g = some (.rs c j)) ∧ G'.S = G.S ∧ G'.β = G.β := by
  have hrs : ∀ c j, takeF s.lv i (.tm s.lv i c j) = .rs c j := fun c j => by simp [takeF]
  refine ⟨G.ren (takeF s.lv i), ⟨h.size, h.defers, fun t => ?_, fun lv t ob hob => ?_, h.dom, h.imm, ren_lim h.lim⟩, (h.slot i).ren _ hrs, ren_fr ?_, fun c j g hg => by rw [ren_ω hg]; rfl, rfl, rfl⟩
  · by_cases ht : t = i
    · subst ht
      have : (s.put t (s.t t).view).t t = (s.t t).view := by simp [St.put, upd]
      rw [this]
      exact OwnS.of_tr ((G.ren_le _).tr (h.slot t).view) (V.view_view _) (V.view_tup _)
    · have : (s.put i (s.t i).view).t t = s.t t := by simp [St.put, upd, ht]
      rw [this]
      exact (h.slot t).ren _ fun c j => by
        have : (St.put s i (s.t i).view).lv = s.lv := rfl
        simp [takeF, ht, this]
  · obtain ⟨g, h1, h2, h3⟩ := h.obj lv t ob hob
    exact ⟨g, h1, by rw [ren_ω h2]; rfl, h3.ren _ fun j => rfl⟩
  · intro p
    cases p with
    | tm l t c j =>
      by_cases hl : l = s.lv ∧ t = i
      · exact .inr (by rw [hl.1]; exact Nat.le_refl _)
      · exact .inl (by simp [takeF, hl])
    | _ => exact .inl rfl

def putF (lv d : Nat) : Pl → Pl
  | .rs c j => .tm lv d c j
  | p => p
theorem getD_setIfInBounds {α : Type} (x : Array α) (d t : Nat) (v u : α) : (x.setIfInBounds d v).getD t u = if t = d ∧ d < x.size then v else x.getD t u := by
  simp only [Array.getD_eq_getD_getElem?, Array.getElem?_setIfInBounds]
  by_cases hd : d = t
  · subst hd
    by_cases hs : d < x.size
    · simp [hs]
    · simp [hs]
  · have : ¬ t = d := fun e => hd e.symm
    simp [hd, this]
/-- a value is put down -/
theorem Rel.put {G : Gh} {s : St} {a : Act} {w : World} (h : Rel G s a w) {v : V} {x : Value} (hv : OwnS G w Pl.rs v x) (d : Nat) (hd : d < s.n) :
    ∃ G', Rel G' (s.put d v) (a.put (some d) x) w ∧ Fr s.lv G w G' w ∧ G'.S = G.S ∧ G'.β = G.β := by
  refine ⟨G.ren (putF s.lv d), ⟨by simp [Act.put, St.put, h.size], h.defers, fun t => ?_, fun lv t ob hob => ?_, h.dom, h.imm, ren_lim h.lim⟩, ren_fr ?_, rfl, rfl⟩
  · show OwnS _ _ _ _ ((a.tmps.setIfInBounds d x).getD t undef)
    rw [getD_setIfInBounds]
    by_cases ht : t = d
    · subst ht
      have : (s.put t v).t t = v := by simp [St.put, upd]
      rw [this, if_pos ⟨rfl, h.size ▸ hd⟩]
      exact hv.ren _ fun c j => rfl
    · have : (s.put d v).t t = s.t t := by simp [St.put, upd, ht]
      rw [this, if_neg (fun e => ht e.1)]
      exact (h.slot t).ren _ fun c j => rfl
  · obtain ⟨g, h1, h2, h3⟩ := h.obj lv t ob hob
    exact ⟨g, h1, by rw [ren_ω h2]; rfl, h3.ren _ fun j => rfl⟩
  · intro p
    cases p with
    | rs c j => exact .inr trivial
    | _ => exact .inl rfl
/-- a value without anything of its own -/
theorem Rel.put_tr {G : Gh} {s : St} {a : Act} {w : World} (h : Rel G s a w) {v : V} {x : Value} (hv : Tr G.S G.β v x) (hn : v.view = v) (ht : ∀ l, v ≠ .tup l) (d : Nat) (hd : d < s.n) :
    ∃ G', Rel G' (s.put d v) (a.put (some d) x) w ∧ Fr s.lv G w G' w ∧ G'.S = G.S ∧ G'.β = G.β := h.put (OwnS.of_tr hv hn ht) d hd

theorem cst_tr {P : Program} {S β} (ty : TypeId) (v : Value) : Tr S β (cst P ty v).view v := by
  unfold cst
  split
  · exact .bool _
  · exact .int _ _
  · exact .str _
  · exact .slc0 _ _ _
  · exact .nilp
  · exact .nilfn
  · exact .undef _
theorem Rel.see {G : Gh} {s : St} {a : Act} {w : World} (h : Rel G s a w) (P : Program) (ty : TypeId) (x : Operand) : Tr G.S G.β (s.see P ty x) (a.eval x) := by
  cases x with
  | tmp i => exact (h.slot i).view
  | const v => exact cst_tr ty v
  | func f => exact .fn f [] #[] rfl (fun i hi => absurd hi (Nat.not_lt_zero _))
  | global g => exact .undef _
theorem see_view (s : St) (P : Program) (ty : TypeId) (x : Operand) : (s.see P ty x).view = s.see P ty x := by
  cases x <;> first | exact V.view_view _ | rfl
theorem see_tup (s : St) (P : Program) (ty : TypeId) (x : Operand) : ∀ l, s.see P ty x ≠ .tup l := by
  cases x <;> first | exact V.view_tup _ | (intro l h; cases h)

/-- the world has grown, and nothing that was said of turns -/
theorem Rel.grow {G G' : Gh} {s : St} {a : Act} {w w' : World} (h : Rel G s a w) (hle : Le G G') (hβ : G'.β = G.β)
    (hs : ∀ g p, (∀ c j, p ≠ .rs c j) → G.ω g = some p → w'.heap[g]? = w.heap[g]? ∧ (∀ j, G'.S g j = G.S g j) ∧ G'.ω g = some p)
    (himm : ∀ g j c, G'.S g j = some c → w'.cell? ⟨g, j, none⟩ = some c) (hlim : ∀ g p, G'.ω g = some p → g < w'.heap.size) : Rel G' s a w' :=
  ⟨h.size, h.defers, fun t => (h.slot t).mono hle fun c j g hg => hs g _ (fun _ _ e => by cases e) hg, fun lv t ob hob => by
    obtain ⟨g, h1, h2, h3⟩ := h.obj lv t ob hob
    obtain ⟨k1, k2, k3⟩ := hs g _ (fun _ _ e => by cases e) h2
    exact ⟨g, hle.β _ _ _ h1, k3, h3.mono hle ⟨k1, k2⟩ fun j k hk => hs k _ (fun _ _ e => by cases e) hk⟩, fun lv t g hg => h.dom lv t g (by rw [← hβ]; exact hg), himm, hlim⟩
end Go.Ev
namespace Go.Ev
open Go
set_option linter.unusedVariables false
set_option linter.unusedSimpArgs false

def OpOk (P : Program) (o : Oper) (G : Gh) (s : St) (a : Act) (w : World) (v : V) (s1 : St) : Prop :=
  ∃ x w' G', (execOp a.eval o).run P w = .ok (.value x) w' ∧ Rel G' s1 a w' ∧ OwnS G' w' Pl.rs v x ∧ Fr s.lv G w G' w'
variable {P : Program} {G : Gh} {s : St} {a : Act} {w : World} {o : Oper}
theorem OpOk.pure (h : Rel G s a w) {v : V} {x : Value} (hr : (execOp a.eval o).run P w = .ok (.value x) w) (hT : Tr G.S G.β v x) (hv : v.view = v) (ht : ∀ l, v ≠ .tup l) : OpOk P o G s a w v s :=
  ⟨x, w, G, hr, h, OwnS.of_tr hT hv ht, Fr.refl _ _ _⟩

theorem szOf_ne {t : TypeId} (h : szOf P t ≠ 0) : ∃ i d, P.info? t = some i ∧ P.underlying t = some d ∧ szOf P t = i.size ∧ P.cellsOf t = i.size := by
  unfold szOf at h ⊢
  cases hi : P.info? t with
  | none => simp [hi] at h
  | some i =>
    cases hd : P.underlying t with
    | none => simp [hi, hd] at h
    | some d => exact ⟨i, d, rfl, rfl, rfl, by simp [Program.cellsOf, hi]⟩
theorem run_sizeOf' {t : TypeId} (h : szOf P t ≠ 0) (w : World) : (sizeOf t).run P w = .ok (szOf P t) w := by
  obtain ⟨i, d, h1, h2, h3, h4⟩ := szOf_ne h
  simp only [sizeOf, Sem.run_bind, typeInfo, run_program, Result.andThen_ok, h1, Sem.run_pure, h3]
theorem run_isAgg' {t : TypeId} (h : (P.underlying t).isSome) (w : World) : (Go.isAgg t).run P w = .ok (isAgg P t) w := by
  obtain ⟨d, hd⟩ := Option.isSome_iff_exists.1 h
  unfold Go.isAgg Ev.isAgg
  simp only [Sem.run_bind, run_underlying hd, Result.andThen_ok, hd]
  cases d <;> rfl

theorem op_move {d : Option Nat} {ty : TypeId} {pos : String} {af : Array Edge} {gd : Option (Nat × Bool)} {x : Operand} (h : Rel G s a w) (op : Op) (hop : op = .move x ∨ op = .assign x) :
    OpOk P ⟨d, op, ty, pos, af, gd⟩ G s a w (s.see P ty x) s := by
  refine OpOk.pure h (x := a.eval x) ?_ (h.see P ty x) (see_view _ _ _ _) (see_tup _ _ _ _)
  rcases hop with rfl | rfl <;> rfl
theorem op_take {d : Option Nat} {ty : TypeId} {pos : String} {af : Array Edge} {gd : Option (Nat × Bool)} {i : Nat} (h : Rel G s a w) (op : Op) (hop : op = .move (.tmp i) ∨ op = .assign (.tmp i)) :
    OpOk P ⟨d, op, ty, pos, af, gd⟩ G s a w (s.t i) (s.drop (.tmp i)) := by
  obtain ⟨G', h1, h2, h3, _⟩ := h.take i
  refine ⟨a.eval (.tmp i), w, G', ?_, h1, h2, h3⟩
  rcases hop with rfl | rfl <;> rfl
theorem cst_own {G : Gh} {w : World} (p : Nat → Nat → Pl) (ty : TypeId) (v : Value) : OwnS G w p (cst P ty v) v := by
  unfold cst
  split
  · exact Tr.bool _
  · exact Tr.int _ _
  · exact Tr.str _
  · exact ⟨Tr.slc0 _ _ _, none, 0, rfl, .inl rfl⟩
  · exact Tr.nilp
  · exact Tr.nilfn
  · exact Tr.undef _
theorem rd_own {G : Gh} {w : World} (p : Nat → Nat → Pl) (ty : TypeId) (x : Operand) (hx : ∀ i, x ≠ .tmp i) : OwnS G w p (rd P s.t ty x) (a.eval x) := by
  cases x with
  | tmp i => exact absurd rfl (hx i)
  | const v => exact cst_own p ty v
  | func f => exact Tr.fn f [] #[] rfl (fun i hi => absurd hi (Nat.not_lt_zero _))
  | global g => exact Tr.undef _
theorem op_const {d : Option Nat} {ty : TypeId} {pos : String} {af : Array Edge} {gd : Option (Nat × Bool)} {x : Operand} (h : Rel G s a w) (op : Op) (hop : op = .move x ∨ op = .assign x) (hx : ∀ i, x ≠ .tmp i) :
    OpOk P ⟨d, op, ty, pos, af, gd⟩ G s a w (rd P s.t ty x) s := by
  refine ⟨a.eval x, w, G, ?_, h, rd_own _ ty x hx, Fr.refl _ _ _⟩
  rcases hop with rfl | rfl <;> rfl

theorem Tr.bool_inv {S β} {b : Bool} {x : Value} (h : Tr S β (.bool b) x) : x = .bool b := by cases h; rfl
theorem Tr.int_inv {S β} {k : IntKind} {n : Int} {x : Value} (h : Tr S β (.int k n) x) : x = .int k n := by cases h; rfl
theorem Tr.str_inv {S β} {b : ByteArray} {x : Value} (h : Tr S β (.str b) x) : x = .string b := by cases h; rfl
theorem Tr.ite {S β} {c : Bool} {v u : V} {x y : Value} (h : Tr S β v x) (k : Tr S β u y) : Tr S β (V.ite c v u) (if c = true then x else y) := by
  have gen : ∀ {p q : V} {x y : Value}, Tr S β p x → Tr S β q y → Tr S β (if c = true then p else q) (if c = true then x else y) := by
    intro p q x y hp hq
    cases c
    · exact hq
    · exact hp
  cases v <;> cases u <;> try exact gen h k
  · rw [h.bool_inv, k.bool_inv]; cases c <;> exact Tr.bool _
  · rename_i k1 n1 k2 n2
    rw [h.int_inv, k.int_inv]
    unfold V.ite
    by_cases hk : k1 = k2
    · subst hk; simp only [if_true]; cases c <;> exact Tr.int _ _
    · simp only [if_neg hk]; exact Tr.undef _
  · rw [h.str_inv, k.str_inv]; cases c <;> exact Tr.str _
theorem ite_view {c : Bool} {v u : V} (hv : v.view = v) (hu : u.view = u) : (V.ite c v u).view = V.ite c v u := by
  have gen : ∀ {p q : V}, p.view = p → q.view = q → (if c = true then p else q).view = if c = true then p else q := by
    intro p q hp hq
    cases c
    · exact hq
    · exact hp
  cases v <;> cases u
  case int.int k n k' n' => show (if k = k' then V.int k (if c = true then n else n') else V.undef).view = _; by_cases hk : k = k' <;> simp [hk, V.ite, V.view, V.viewC]
  case bool.bool => rfl
  case str.str => rfl
  all_goals exact gen hv hu
theorem ite_tup {c : Bool} {v u : V} (hv : ∀ l, v ≠ .tup l) (hu : ∀ l, u ≠ .tup l) : ∀ l, V.ite c v u ≠ .tup l := by
  intro l
  have gen : ∀ {p q : V}, p ≠ .tup l → q ≠ .tup l → (if c = true then p else q) ≠ .tup l := by
    intro p q hp hq
    cases c
    · exact hq
    · exact hp
  cases v <;> cases u
  case int.int k n k' n' => show (if k = k' then V.int k (if c = true then n else n') else V.undef) ≠ _; split <;> (intro e; cases e)
  case bool.bool => intro e; cases e
  case str.str => intro e; cases e
  all_goals exact gen (hv l) (hu l)
theorem op_pick {d : Option Nat} {ty : TypeId} {pos : String} {af : Array Edge} {gd : Option (Nat × Bool)} {c x y : Operand} (h : Rel G s a w) {cb : Bool} (hc : s.see P 0 c = .bool cb) :
    OpOk P ⟨d, .pick c x y, ty, pos, af, gd⟩ G s a w (V.ite cb (s.see P ty x) (s.see P ty y)) s := by
  have h1 := h.see P 0 c
  rw [hc] at h1
  refine OpOk.pure h (x := if cb = true then a.eval x else a.eval y) ?_ ((h.see P ty x).ite (h.see P ty y)) (ite_view (see_view _ _ _ _) (see_view _ _ _ _)) (ite_tup (see_tup _ _ _ _) (see_tup _ _ _ _))
  simp only [execOp, h1.bool_inv, asBool, Sem.run_bind, Sem.run_pure, Result.andThen_ok]
theorem op_nil {d : Option Nat} {ty : TypeId} {pos : String} {af : Array Edge} {gd : Option (Nat × Bool)} {x : Operand} (h : Rel G s a w) {v : V} (hc : s.see P 0 x = v)
    (hv : (∃ lv t off, v = .ptr lv t off) ∨ (∃ l, v = .imp l) ∨ (∃ lv t i sz, v = .eptr lv t i sz) ∨ ∃ f c, v = .fn f c) :
    OpOk P ⟨d, .nilCheck x, ty, pos, af, gd⟩ G s a w v s := by
  have h1 := h.see P 0 x
  rw [hc] at h1
  have h2 := see_view s P 0 x
  have h3 := see_tup s P 0 x
  rw [hc] at h2 h3
  refine OpOk.pure h (x := a.eval x) ?_ h1 h2 h3
  simp only [execOp]
  generalize a.eval x = y at h1
  rcases hv with ⟨lv, t, off, rfl⟩ | ⟨l, rfl⟩ | ⟨lv, t, i, sz, rfl⟩ | ⟨f, c, rfl⟩ <;> cases h1 <;> rfl

/-! numbers, strings -/
theorem run_val {s : Sem Value} {x : Value} {w w' : World} (h : s.run P w = .ok x w') : ((do pure (Next.value (← s)) : Sem Next)).run P w = .ok (.value x) w' := by
  simp only [Sem.run_bind, h, Result.andThen_ok, Sem.run_pure]
theorem arith_run {op : BinOp} {k : IntKind} {n m : Int} {v : V} (hop : op ≠ .shl ∧ op ≠ .shr) (t : TypeId) (h : arith op k n m = some v) (w : World) : ∃ x, (binOp op t (.int k n) (.int k m)).run P w = .ok x w ∧ Tr G.S G.β v x ∧ v.view = v ∧ ∀ l, v ≠ .tup l := by
  cases op <;> simp only [arith, Option.some.injEq, reduceCtorEq] at h
  case add => subst h; exact ⟨_, by simp only [binOp, ne_eq, not_true_eq_false, if_false, Op.intArith, Sem.run_pure], Tr.int _ _, rfl, fun l e => by cases e⟩
  case sub => subst h; exact ⟨_, by simp only [binOp, ne_eq, not_true_eq_false, if_false, Op.intArith, Sem.run_pure], Tr.int _ _, rfl, fun l e => by cases e⟩
  case mul => subst h; exact ⟨_, by simp only [binOp, ne_eq, not_true_eq_false, if_false, Op.intArith, Sem.run_pure], Tr.int _ _, rfl, fun l e => by cases e⟩
  case and => subst h; exact ⟨_, by simp only [binOp, ne_eq, not_true_eq_false, if_false, Op.intBits, Sem.run_pure], Tr.int _ _, rfl, fun l e => by cases e⟩
  case or => subst h; exact ⟨_, by simp only [binOp, ne_eq, not_true_eq_false, if_false, Op.intBits, Sem.run_pure], Tr.int _ _, rfl, fun l e => by cases e⟩
  case eql => subst h; exact ⟨_, by simp only [binOp, ne_eq, not_true_eq_false, if_false, Op.intCmp, Sem.run_pure], Tr.bool _, rfl, fun l e => by cases e⟩
  case neq => subst h; exact ⟨_, by simp only [binOp, ne_eq, not_true_eq_false, if_false, Op.intCmp, Sem.run_pure], Tr.bool _, rfl, fun l e => by cases e⟩
  case lss => subst h; exact ⟨_, by simp only [binOp, ne_eq, not_true_eq_false, if_false, Op.intCmp, Sem.run_pure], Tr.bool _, rfl, fun l e => by cases e⟩
  case leq => subst h; exact ⟨_, by simp only [binOp, ne_eq, not_true_eq_false, if_false, Op.intCmp, Sem.run_pure], Tr.bool _, rfl, fun l e => by cases e⟩
  case gtr => subst h; exact ⟨_, by simp only [binOp, ne_eq, not_true_eq_false, if_false, Op.intCmp, Sem.run_pure], Tr.bool _, rfl, fun l e => by cases e⟩
  case geq => subst h; exact ⟨_, by simp only [binOp, ne_eq, not_true_eq_false, if_false, Op.intCmp, Sem.run_pure], Tr.bool _, rfl, fun l e => by cases e⟩
  case quo =>
    split at h
    · cases h
    · rename_i hm
      obtain rfl := Option.some.inj h
      refine ⟨.int k (k.wrap (n.tdiv m)), ?_, Tr.int _ _, rfl, fun l e => by cases e⟩
      simp [binOp, Op.intDiv, hm]
  case rem =>
    split at h
    · cases h
    · rename_i hm
      obtain rfl := Option.some.inj h
      refine ⟨.int k (n.tmod m), ?_, Tr.int _ _, rfl, fun l e => by cases e⟩
      simp [binOp, Op.intDiv, hm]
theorem shift_run {op : BinOp} {k k' : IntKind} {n m : Int} {v : V} (hop : op = .shl ∨ op = .shr) (t : TypeId) (h : shiftV op k n m = some v) (w : World) : ∃ x, (binOp op t (.int k n) (.int k' m)).run P w = .ok x w ∧ Tr G.S G.β v x ∧ v.view = v ∧ ∀ l, v ≠ .tup l := by
  unfold shiftV at h
  split at h
  · cases h
  · rename_i hm
    rcases hop with rfl | rfl
    · obtain rfl := Option.some.inj h
      exact ⟨.int k (k.wrap (n * 2 ^ (min m.toNat k.bits))), by simp [binOp, Op.shift, hm], Tr.int _ _, rfl, fun l e => by cases e⟩
    · obtain rfl := Option.some.inj h
      exact ⟨.int k (n.fdiv (2 ^ (min m.toNat k.bits))), by simp [binOp, Op.shift, hm], Tr.int _ _, rfl, fun l e => by cases e⟩
theorem str_run {op : BinOp} {x y : ByteArray} {v : V} (t : TypeId) (h : strOp op x y = some v) (w : World) : ∃ z, (binOp op t (.string x) (.string y)).run P w = .ok z w ∧ Tr G.S G.β v z ∧ v.view = v ∧ ∀ l, v ≠ .tup l := by
  cases op <;> simp only [strOp, Option.some.injEq, reduceCtorEq] at h
  case add =>
    split at h
    · cases h
    · rename_i hm
      obtain rfl := Option.some.inj h
      refine ⟨.string (x ++ y), ?_, Tr.str _, rfl, fun l e => by cases e⟩
      have hm' : ¬ ((x.size + y.size : Nat) : Int) > IntKind.i64.max := hm
      simp only [binOp, Op.stringOp, if_neg hm', Sem.run_pure]
  case eql => subst h; exact ⟨_, by simp only [binOp, Op.stringOp, Sem.run_pure], Tr.bool _, rfl, fun l e => by cases e⟩
  case neq => subst h; exact ⟨_, by simp only [binOp, Op.stringOp, Sem.run_pure], Tr.bool _, rfl, fun l e => by cases e⟩
  case lss => subst h; exact ⟨_, rfl, Tr.bool _, rfl, fun l e => by cases e⟩
  case geq => subst h; exact ⟨_, rfl, Tr.bool _, rfl, fun l e => by cases e⟩
end Go.Ev
namespace Go.Ev
open Go
set_option linter.unusedVariables false
set_option linter.unusedSimpArgs false
variable {P : Program} {G : Gh} {s : St} {a : Act} {w : World} {o : Oper}
variable {d : Option Nat} {ty : TypeId} {pos : String} {af : Array Edge} {gd : Option (Nat × Bool)}

theorem unV_run {op : UnOp} {v u : V} {x : Value} (hv : Tr G.S G.β v x) (h : unV op v = some u) (w : World) : ∃ y, (Op.unary op x).run P w = .ok y w ∧ Tr G.S G.β u y ∧ u.view = u ∧ ∀ l, u ≠ .tup l := by
  unfold unV at h
  split at h
  · rw [hv.bool_inv]; obtain rfl := Option.some.inj h; exact ⟨_, rfl, Tr.bool _, rfl, fun l e => by cases e⟩
  · rw [hv.int_inv]; obtain rfl := Option.some.inj h; exact ⟨_, rfl, Tr.int _ _, rfl, fun l e => by cases e⟩
  · cases h
theorem op_un {op : UnOp} {t : TypeId} {x : Operand} {v : V} (h : Rel G s a w) (hv : unV op (s.see P t x) = some v) : OpOk P ⟨d, .unOp op t x, ty, pos, af, gd⟩ G s a w v s := by
  obtain ⟨y, h1, h2, h3, h4⟩ := unV_run (P := P) (h.see P t x) hv w
  exact OpOk.pure h (run_val h1) h2 h3 h4

theorem sameT_run {td : TypeDesc} {x y : V} {r : Bool} {b c : Value} (h : sameT td x y = some r) (hx : Tr G.S G.β x b) (hy : Tr G.S G.β y c) {t : TypeId} (ht : P.underlying t = some td) (w : World) (n : Nat) : (Op.equalIn (n + 1) t b c).run P w = .ok r w := by
  unfold sameT at h
  split at h
  · split at h
    · rename_i hk; subst hk
      obtain rfl := Option.some.inj h
      rw [hx.int_inv, hy.int_inv]
      exact run_equalIn_int w n t _ _ _ _ ht
    · cases h
  · obtain rfl := Option.some.inj h
    rw [hx.bool_inv, hy.bool_inv]
    exact run_equalIn_bool' w n t _ _ ht
  · obtain rfl := Option.some.inj h
    rw [hx.str_inv, hy.str_inv]
    exact run_equalIn_string w n t _ _ ht
  · cases h
theorem sameT_scalar {td : TypeDesc} {x y : V} {r : Bool} (h : sameT td x y = some r) : (∃ k, td = .int k) ∨ td = .bool ∨ td = .string := by
  unfold sameT at h
  split at h
  · exact .inl ⟨_, rfl⟩
  · exact .inr (.inl rfl)
  · exact .inr (.inr rfl)
  · cases h
theorem part_scalar {td : TypeDesc} (hs : (∃ k, td = .int k) ∨ td = .bool ∨ td = .string) {t : TypeId} (ht : P.underlying t = some td) {cs : Array Value} {n : Nat} (hn : n < cs.size) (w : World) : (part t cs n).run P w = .ok (cs.getD n undef) w := by
  unfold part
  have h1 : (Go.isAgg t).run P w = .ok false w := by
    rw [run_isAgg' (by rw [ht]; rfl)]
    unfold Ev.isAgg
    rw [ht]
    rcases hs with ⟨k, rfl⟩ | rfl | rfl <;> rfl
  simp only [Sem.run_bind, h1, Result.andThen_ok, Bool.false_eq_true, if_false]
  rw [Array.getElem?_eq_getElem hn]
  simp [Array.getD, hn]
theorem sameF_run : ∀ (fs : List Field) (n : Nat) (l m : List V) (r : Bool) (xs ys : Array Value), sameF P n fs l m = some r → n + l.length = xs.size → n + m.length = ys.size →
    (∀ i, i < l.length → Tr G.S G.β (l.getD i .undef) (xs.getD (n + i) undef)) → (∀ i, i < m.length → Tr G.S G.β (m.getD i .undef) (ys.getD (n + i) undef)) → ∀ (w : World) (k : Nat), (Op.eqFields (k + 1) xs ys fs).run P w = .ok r w := by
  intro fs
  induction fs with
  | nil =>
    intro n l m r xs ys h _ _ _ _ w k
    cases l <;> cases m <;> simp only [sameF, reduceCtorEq, Option.some.injEq] at h
    subst h
    rfl
  | cons f fs ih =>
    intro n l m r xs ys h hx hy hl hm w k
    cases l with
    | nil => simp [sameF] at h
    | cons b l =>
      cases m with
      | nil => simp [sameF] at h
      | cons c m =>
        simp only [sameF] at h
        split at h
        · rename_i hf
          split at h
          · rename_i td htd
            split at h
            · rename_i p q hp hq
              obtain rfl := Option.some.inj h
              have hb := hl 0 (by simp)
              have hc := hm 0 (by simp)
              simp only [List.getD_cons_zero, Nat.add_zero] at hb hc
              have hx0 : n < xs.size := by simp at hx; omega
              have hy0 : n < ys.size := by simp at hy; omega
              have e1 := part_scalar (P := P) (sameT_scalar hp) htd hx0 w
              have e2 := part_scalar (P := P) (sameT_scalar hp) htd hy0 w
              have e3 := sameT_run (P := P) hp hb hc htd w k
              have e4 := ih (n + 1) l m q xs ys hq (by simp at hx; omega) (by simp at hy; omega) (fun i hi => by
                have := hl (i + 1) (by simpa using hi)
                rwa [List.getD_cons_succ, show n + (i + 1) = n + 1 + i by omega] at this) (fun i hi => by
                have := hm (i + 1) (by simpa using hi)
                rwa [List.getD_cons_succ, show n + (i + 1) = n + 1 + i by omega] at this) w k
              have hn : f.name ≠ "_" := by simpa using hf.2
              rw [Op.eqFields]
              simp only [if_pos hn, Sem.run_bind, hf.1, e1, e2, e3, Result.andThen_ok]
              cases p
              · simp
              · simpa using e4
            · cases h
          · cases h
        · cases h
theorem Tr.agg_inv {S β} {l : List V} {x : Value} (h : Tr S β (.agg l) x) : ∃ cs, x = .agg cs ∧ l.length = cs.size ∧ ∀ i, i < l.length → Tr S β (l.getD i .undef) (cs.getD i Go.undef) := by
  cases h with
  | agg _ cs hl hT => exact ⟨cs, rfl, hl, hT⟩
theorem sameA_len {td : TypeDesc} : ∀ (l m : List V) (r : Bool), sameA td l m = some r → l.length = m.length := by
  intro l
  induction l with
  | nil => intro m r h; cases m <;> simp [sameA] at h ⊢
  | cons b l ih =>
    intro m r h
    cases m with
    | nil => simp [sameA] at h
    | cons c m =>
      simp only [sameA] at h
      split at h
      · rename_i p q hp hq
        simp [ih m q hq]
      · cases h
theorem sameA_run {td : TypeDesc} {e : TypeId} (he : P.underlying e = some td) (hs : szOf P e = 1) : ∀ (l m : List V) (r : Bool) (n : Nat) (xs ys : Array Value), sameA td l m = some r → n + l.length = xs.size → n + m.length = ys.size →
    (∀ i, i < l.length → Tr G.S G.β (l.getD i .undef) (xs.getD (n + i) Go.undef)) → (∀ i, i < m.length → Tr G.S G.β (m.getD i .undef) (ys.getD (n + i) Go.undef)) → ∀ (w : World) (k : Nat), (Op.eqItems (k + 1) e (P.cellsOf e) xs ys (List.range' n l.length)).run P w = .ok r w := by
  have hc : P.cellsOf e = 1 := by
    obtain ⟨i, d, h1, h2, h3, h4⟩ := szOf_ne (P := P) (t := e) (by omega)
    omega
  intro l
  induction l with
  | nil =>
    intro m r n xs ys h _ _ _ _ w k
    cases m <;> simp only [sameA, reduceCtorEq, Option.some.injEq] at h
    subst h
    rfl
  | cons b l ih =>
    intro m r n xs ys h hx hy hl hm w k
    cases m with
    | nil => simp [sameA] at h
    | cons c m =>
      simp only [sameA] at h
      split at h
      · rename_i p q hp hq
        obtain rfl := Option.some.inj h
        have hb := hl 0 (by simp)
        have hc' := hm 0 (by simp)
        simp only [List.getD_cons_zero, Nat.add_zero] at hb hc'
        have hx0 : n < xs.size := by simp at hx; omega
        have hy0 : n < ys.size := by simp at hy; omega
        have e1 := part_scalar (P := P) (sameT_scalar hp) he hx0 w
        have e2 := part_scalar (P := P) (sameT_scalar hp) he hy0 w
        have e3 := sameT_run (P := P) hp hb hc' he w k
        have e4 := ih m q (n + 1) xs ys hq (by simp at hx; omega) (by simp at hy; omega) (fun i hi => by
          have := hl (i + 1) (by simpa using hi)
          rwa [List.getD_cons_succ, show n + (i + 1) = n + 1 + i by omega] at this) (fun i hi => by
          have := hm (i + 1) (by simpa using hi)
          rwa [List.getD_cons_succ, show n + (i + 1) = n + 1 + i by omega] at this) w k
        rw [hc] at e4
        simp only [List.length_cons, List.range'_succ, Op.eqItems, hc, Nat.mul_one, Sem.run_bind, e1, e2, e3, Result.andThen_ok]
        cases p
        · simp
        · simpa using e4
      · cases h
theorem eqV_run {t : TypeId} {x y : V} {r : Bool} {b c : Value} (h : eqV P t x y = some r) (hx : Tr G.S G.β x b) (hy : Tr G.S G.β y c) (w : World) : (Op.equal t b c).run P w = .ok r w := by
  unfold eqV at h
  unfold Op.equal
  show (Op.equalIn (9998 + 1 + 1) t b c).run P w = _
  split at h
  · rename_i fs hu
    split at h
    · rename_i hp
      split at h
      · rename_i l m
        obtain ⟨xs, rfl, hl, hxl⟩ := hx.agg_inv
        obtain ⟨ys, rfl, hm, hym⟩ := hy.agg_inv
        have hf : P.fieldsOf t = fs := by simp [Program.fieldsOf, hu]
        rw [run_equalIn_struct (P := P) w _ t xs ys (by rw [hf]; exact hu) hp, hf]
        exact sameF_run fs.toList 0 l m r xs ys h (by omega) (by omega) (fun i hi => by rw [Nat.zero_add]; exact hxl i hi) (fun i hi => by rw [Nat.zero_add]; exact hym i hi) w _
      · cases h
    · cases h
  · rename_i n e hu
    split at h
    · rename_i l m
      split at h
      · rename_i hc
        split at h
        · rename_i td he
          obtain ⟨xs, rfl, hl, hxl⟩ := hx.agg_inv
          obtain ⟨ys, rfl, hm, hym⟩ := hy.agg_inv
          obtain ⟨i, d, h1, h2, h3, h4⟩ := szOf_ne (P := P) (t := e) (by omega)
          rw [run_equalIn_array w _ xs ys hu h1, List.range_eq_range', ← hc.1]
          exact sameA_run he hc.2 l m r 0 xs ys h (by omega) (by omega) (fun i hi => by rw [Nat.zero_add]; exact hxl i hi) (fun i hi => by rw [Nat.zero_add]; exact hym i hi) w _
        · cases h
      · cases h
    · cases h
  · rename_i td _ _ hu
    exact sameT_run h hx hy hu w _
  · cases h
theorem binV_run {op : BinOp} {t : TypeId} {x y v : V} {b c : Value} {p q : Operand} (h : binV P t op x y = some v) (hx : Tr G.S G.β x b) (hy : Tr G.S G.β y c) (w : World) :
    ∃ z, (do eqGuard op t p q b c; binOp op t b c : Sem Value).run P w = .ok z w ∧ Tr G.S G.β v z ∧ v.view = v ∧ ∀ l, v ≠ .tup l := by
  unfold binV at h
  have hq : ∀ k m k' m', (eqGuard op t p q (.int k m) (.int k' m')).run P w = .ok () w := by
    intro k m k' m'
    unfold eqGuard
    by_cases ho : (op matches .eql | .neq) = true <;> simp [ho]
  split at h
  · rename_i k n k' m
    rw [hx.int_inv, hy.int_inv]
    simp only [Sem.run_bind, hq, Result.andThen_ok]
    split at h
    · exact shift_run (.inl rfl) t h w
    · exact shift_run (.inr rfl) t h w
    · rename_i h1 h2
      split at h
      · rename_i hk; subst hk
        exact arith_run ⟨h1, h2⟩ t h w
      · cases h
  · rename_i x y
    rw [hx.str_inv, hy.str_inv]
    have hq : (eqGuard op t p q (.string x) (.string y)).run P w = .ok () w := by
      unfold eqGuard
      by_cases ho : (op matches .eql | .neq) = true <;> simp [ho]
    simp only [Sem.run_bind, hq, Result.andThen_ok]
    exact str_run t h w
  · rename_i x y
    have hx' := hx
    have hy' := hy
    rw [hx.bool_inv] at hx' ⊢
    rw [hy.bool_inv] at hy' ⊢
    have hq : (eqGuard op t p q (.bool x) (.bool y)).run P w = .ok () w := by
      unfold eqGuard
      by_cases ho : (op matches .eql | .neq) = true <;> simp [ho]
    simp only [Sem.run_bind, hq, Result.andThen_ok]
    split at h
    · obtain ⟨r, hr, rfl⟩ := Option.map_eq_some_iff.1 h
      exact ⟨.bool r, by simp only [binOp, Sem.run_bind, eqV_run hr hx' hy' w, Result.andThen_ok, Sem.run_pure], Tr.bool _, rfl, fun l e => by cases e⟩
    · obtain ⟨r, hr, rfl⟩ := Option.map_eq_some_iff.1 h
      exact ⟨.bool (!r), by simp only [binOp, Sem.run_bind, eqV_run hr hx' hy' w, Result.andThen_ok, Sem.run_pure], Tr.bool _, rfl, fun l e => by cases e⟩
    · cases h
  · rename_i l m
    obtain ⟨xs, hb, hl, hxl⟩ := hx.agg_inv
    obtain ⟨ys, hc, hm, hym⟩ := hy.agg_inv
    subst hb; subst hc
    split at h
    · rename_i hg
      have hq : (eqGuard op t p q (.agg xs) (.agg ys)).run P w = .ok () w := by
        unfold eqGuard
        by_cases ho : (op matches .eql | .neq) = true <;> simp [ho, hg]
      simp only [Sem.run_bind, hq, Result.andThen_ok]
      split at h
      · obtain ⟨r, hr, rfl⟩ := Option.map_eq_some_iff.1 h
        exact ⟨.bool r, by simp only [binOp, Sem.run_bind, eqV_run hr hx hy w, Result.andThen_ok, Sem.run_pure], Tr.bool _, rfl, fun l e => by cases e⟩
      · obtain ⟨r, hr, rfl⟩ := Option.map_eq_some_iff.1 h
        exact ⟨.bool (!r), by simp only [binOp, Sem.run_bind, eqV_run hr hx hy w, Result.andThen_ok, Sem.run_pure], Tr.bool _, rfl, fun l e => by cases e⟩
      · cases h
    · cases h
  · cases h
theorem op_bin {op : BinOp} {t u : TypeId} {x y : Operand} {v : V} (h : Rel G s a w) (hv : binV P t op (s.see P t x) (s.see P t y) = some v) : OpOk P ⟨d, .binOp op t x y u, ty, pos, af, gd⟩ G s a w v s := by
  obtain ⟨z, h1, h2, h3, h4⟩ := binV_run (P := P) (p := x) (q := y) hv (h.see P t x) (h.see P t y) w
  exact OpOk.pure h (run_val h1) h2 h3 h4
theorem op_nilCmp {op : BinOp} {t u : TypeId} {x y : Operand} {v : V} (h : Rel G s a w) (hn : isNilc y = true) (hv : nilCmp P op t (s.see P t x) = some v) : OpOk P ⟨d, .binOp op t x y u, ty, pos, af, gd⟩ G s a w v s := by
  have hy : y = .const (.slice none 0 0) := by
    unfold isNilc at hn
    split at hn
    · rfl
    · cases hn
  subst hy
  have hx := h.see P t x
  generalize s.see P t x = xv at hv hx
  generalize hax : a.eval x = X at hx
  have hsl : ∃ b n cap, X = .slice (some b) n cap := by
    unfold nilCmp at hv
    split at hv
    · cases hx with
      | slc sz l b o cap c hc hs hS hT => exact ⟨_, _, _, rfl⟩
    · cases hx with
      | aref lv t n g cap hb hc => exact ⟨_, _, _, rfl⟩
    · cases hv
  obtain ⟨b, n, cap, rfl⟩ := hsl
  have hq : isSl P t = true ∧ ((op = .eql ∧ v = .bool false) ∨ (op = .neq ∧ v = .bool true)) := by
    unfold nilCmp at hv
    split at hv
    all_goals first
      | (cases hv; done)
      | (split at hv
         · rename_i hs
           refine ⟨hs, ?_⟩
           split at hv
           · exact .inl ⟨rfl, (Option.some.inj hv).symm⟩
           · exact .inr ⟨rfl, (Option.some.inj hv).symm⟩
           · cases hv
         · cases hv)
  obtain ⟨e, he⟩ : ∃ e, P.underlying t = some (.slice e) := by
    have := hq.1
    unfold isSl at this
    split at this
    · exact ⟨_, by assumption⟩
    · cases this
  have heq : (Op.equal t (.slice (some b) n cap) (.slice none 0 0)).run P w = .ok false w := by
    unfold Op.equal
    rw [show Op.maxDepth = 9999 + 1 from rfl]
    generalize 9999 = N
    rw [Op.equalIn]
    simp only [Sem.run_bind, run_underlying he, Result.andThen_ok, Sem.run_pure]
  have hev : a.eval (.const (.slice none 0 0)) = .slice none 0 0 := rfl
  rcases hq.2 with ⟨rfl, rfl⟩ | ⟨rfl, rfl⟩
  · refine OpOk.pure h (x := .bool false) (run_val ?_) (Tr.bool _) rfl (fun l e => by cases e)
    rw [hax, hev]
    simp only [eqGuard, Sem.run_bind, Bool.not_true, Bool.false_eq_true, if_false, Sem.run_pure, Result.andThen_ok, binOp, heq]
  · refine OpOk.pure h (x := .bool true) (run_val ?_) (Tr.bool _) rfl (fun l e => by cases e)
    rw [hax, hev]
    simp only [eqGuard, Sem.run_bind, Bool.not_true, Bool.false_eq_true, if_false, Sem.run_pure, Result.andThen_ok, binOp, heq]
    rfl
end Go.Ev
namespace Go.Ev
open Go
set_option linter.unusedVariables false
set_option linter.unusedSimpArgs false
variable {P : Program} {G : Gh} {s : St} {a : Act} {w : World} {o : Oper}
variable {d : Option Nat} {ty : TypeId} {pos : String} {af : Array Edge} {gd : Option (Nat × Bool)}

theorem add_eq (b o n : Nat) : (⟨b, o, none⟩ : Addr).add n = ⟨b, o + n, none⟩ := by
  unfold Addr.add
  by_cases h : n = 0
  · subst h; simp
  · simp [h]
theorem isSl_spec {t : TypeId} (h : isSl P t = true) : ∃ e, P.underlying t = some (.slice e) ∧ elemOf P t = e := by
  unfold isSl at h
  split at h
  · rename_i e he
    exact ⟨e, he, by simp [elemOf, he]⟩
  · cases h
theorem isStr_spec {t : TypeId} (h : isStr P t = true) : P.underlying t = some .string := by
  unfold isStr at h
  split at h
  · assumption
  · cases h
theorem Tr.slc_inv {S β} {sz : Nat} {l : List V} {x : Value} (h : Tr S β (.slc false sz l) x) : (l = [] ∧ ∃ a cap, x = .slice a 0 cap) ∨ ∃ (b o cap : Nat) (c : Nat → Nat → Value), x = .slice (some ⟨b, o, none⟩) l.length cap ∧ l.length ≤ cap ∧ (∀ x ∈ l, x.flat.length = sz ∧ x.flat.all pureC = true) ∧
      (∀ i j, i < l.length → j < sz → S b (o + i * sz + j) = some (c i j)) ∧ ∀ i j, i < l.length → j < sz → Tr S β ((l.getD i .undef).flat.getD j .undef) (c i j) := by
  cases h with
  | slc0 _ a cap => exact .inl ⟨rfl, a, cap, rfl⟩
  | slc _ _ b o cap c hc hs hS hT => exact .inr ⟨b, o, cap, c, rfl, hc, hs, hS, hT⟩
theorem see_slc {x : Operand} {own : Bool} {sz : Nat} {l : List V} {t : TypeId} (h : s.see P t x = .slc own sz l) : own = false := by
  have h1 := see_view s P t x
  rw [h] at h1
  cases own
  · rfl
  · cases h1

/-! ### len, min, max -/
theorem run_builtin {b : Builtin} {args : Array Operand} {tys : Array TypeId} {x : Value} {w' : World} (h : (builtin b tys ty (args.map fun | .const _ => true | _ => false) (args.map a.eval)).run P w = .ok (.value x) w') :
    (execOp a.eval ⟨d, .call { callee := .builtin b, args := args, argTypes := tys }, ty, pos, af, gd⟩).run P w = .ok (.value x) w' := by
  simp only [execOp, resolve, Sem.run_bind, Sem.run_pure, Result.andThen_ok, invoke]
  exact h
theorem op_len {x : Operand} {t : TypeId} {v : V} (h : Rel G s a w) (hv : lenV P s t (s.see P t x) = some v) : OpOk P ⟨d, .call { callee := .builtin .len, args := #[x], argTypes := #[t] }, ty, pos, af, gd⟩ G s a w v s := by
  have h1 := h.see P t x
  unfold lenV at hv
  split at hv
  · rename_i own sz l hs
    split at hv
    · rename_i ht
      obtain rfl := Option.some.inj hv
      obtain ⟨e, he, _⟩ := isSl_spec ht
      rw [hs] at h1
      obtain rfl := see_slc hs
      refine OpOk.pure h (x := .int .i64 l.length) (run_builtin ?_) (Tr.int _ _) rfl (fun l e => by cases e)
      have : ∃ A c, a.eval x = .slice A l.length c := by
        rcases h1.slc_inv with ⟨rfl, _, _, h2⟩ | ⟨b, o, cap, c, h2, _⟩
        · exact ⟨_, _, h2⟩
        · exact ⟨_, _, h2⟩
      obtain ⟨A, c, hx⟩ := this
      simp [builtin, Builtin.len_, hx, run_underlying he, goInt]
    · cases hv
  · rename_i b hs
    split at hv
    · rename_i ht
      obtain rfl := Option.some.inj hv
      rw [hs] at h1
      refine OpOk.pure h (x := .int .i64 b.size) (run_builtin ?_) (Tr.int _ _) rfl (fun l e => by cases e)
      simp [builtin, Builtin.len_, h1.str_inv, run_underlying (isStr_spec ht), goInt]
    · cases hv
  · rename_i lv u n hs
    split at hv
    · rename_i ht
      obtain rfl := Option.some.inj hv
      obtain ⟨e, he, _⟩ := isSl_spec ht
      rw [hs] at h1
      refine OpOk.pure h (x := .int .i64 n) (run_builtin ?_) (Tr.int _ _) rfl (fun l e => by cases e)
      have : ∃ A c, a.eval x = .slice A n c := by
        generalize a.eval x = y at h1
        cases h1
        exact ⟨_, _, rfl⟩
      obtain ⟨A, c, hx⟩ := this
      simp [builtin, Builtin.len_, hx, run_underlying he, goInt]
    · cases hv
  · rename_i lv u hs
    split at hv
    · rename_i es ht ho
      obtain rfl := Option.some.inj hv
      rw [hs] at h1
      obtain ⟨g, hg, hω, en, ck, hb, hl, _⟩ := h.obj lv u _ ho
      have : a.eval x = .map (some g) := by
        generalize a.eval x = y at h1
        cases h1
        rename_i g' hg'
        rw [hg] at hg'
        cases hg'
        rfl
      refine OpOk.pure h (x := .int .i64 es.length) (run_builtin ?_) (Tr.int _ _) rfl (fun l e => by cases e)
      simp [builtin, Builtin.len_, this, run_underlying ht, goInt, getObj, Sem.run, hb, hl]
    · cases hv
  · cases hv
theorem op_min {x y : Operand} {tys : Array TypeId} {v : V} (h : Rel G s a w) (hv : min2V (s.see P 0 x) (s.see P 0 y) = some v) : OpOk P ⟨d, .call { callee := .builtin .min, args := #[x, y], argTypes := tys }, ty, pos, af, gd⟩ G s a w v s := by
  have h1 := h.see P 0 x
  have h2 := h.see P 0 y
  unfold min2V at hv
  split at hv
  · rename_i k n k' m hx hy
    split at hv
    · rename_i hk; subst hk
      obtain rfl := Option.some.inj hv
      rw [hx] at h1
      rw [hy] at h2
      refine OpOk.pure h (x := .int k (if m < n then m else n)) (run_builtin ?_) (Tr.int _ _) rfl (fun l e => by cases e)
      simp [builtin, Builtin.min_, h1.int_inv, h2.int_inv, Builtin.min2]
    · cases hv
  · cases hv
theorem op_max {x y : Operand} {tys : Array TypeId} {v : V} (h : Rel G s a w) (hv : max2V (s.see P 0 x) (s.see P 0 y) = some v) : OpOk P ⟨d, .call { callee := .builtin .max, args := #[x, y], argTypes := tys }, ty, pos, af, gd⟩ G s a w v s := by
  have h1 := h.see P 0 x
  have h2 := h.see P 0 y
  unfold max2V at hv
  split at hv
  · rename_i k n k' m hx hy
    split at hv
    · rename_i hk; subst hk
      obtain rfl := Option.some.inj hv
      rw [hx] at h1
      rw [hy] at h2
      refine OpOk.pure h (x := .int k (if m > n then m else n)) (run_builtin ?_) (Tr.int _ _) rfl (fun l e => by cases e)
      simp [builtin, Builtin.max_, h1.int_inv, h2.int_inv, Builtin.max2]
    · cases hv
  · cases hv

/-! ### places -/
theorem op_fieldAddr {x : Operand} {t : TypeId} {f : Nat} {v : V} (h : Rel G s a w) (hv : vFieldAddr P t f (s.see P 0 x) = some v) : OpOk P ⟨d, .fieldAddr t x f, ty, pos, af, gd⟩ G s a w v s := by
  have h1 := h.see P 0 x
  unfold vFieldAddr at hv
  split at hv
  · rename_i fs hu
    split at hv
    · rename_i fd hf
      split at hv
      · rename_i hz
        generalize s.see P 0 x = u at hv h1
        split at hv
        · rename_i lv t' off
          obtain rfl := Option.some.inj hv
          cases h1' : a.eval x <;> rw [h1'] at h1 <;> cases h1
          rename_i g hg
          refine OpOk.pure h (x := .pointer (some ⟨g, off + fd.offset, none⟩)) ?_ (Tr.ptr _ _ _ _ hg) rfl (fun l e => by cases e)
          simp only [execOp]
          refine run_val ?_
          simp [Instr.fieldAt, run_underlying hu, hf, h1', Instr.sureAddr, fieldPlace, run_sizeOf' hz, hz, add_eq]
        · rename_i l
          obtain rfl := Option.some.inj hv
          cases h1' : a.eval x <;> rw [h1'] at h1 <;> cases h1
          rename_i b o c hp hS hT
          refine OpOk.pure h (x := .pointer (some ⟨b, o + fd.offset, none⟩)) ?_ (Tr.imp _ _ _ (fun j => c (fd.offset + j)) (by rw [List.all_eq_true] at hp ⊢; exact fun x hx => hp x (List.mem_of_mem_drop hx)) (fun j hj => ?_) (fun j hj => ?_)) rfl (fun l e => by cases e)
          · simp only [execOp]
            refine run_val ?_
            simp [Instr.fieldAt, run_underlying hu, hf, h1', Instr.sureAddr, fieldPlace, run_sizeOf' hz, hz, add_eq]
          · rw [Nat.add_assoc]; exact hS _ (by simp at hj; omega)
          · have := hT (fd.offset + j) (by simp at hj; omega)
            simpa [List.getD_eq_getElem?_getD] using this
        · cases hv
      · cases hv
    · cases hv
  · cases hv
theorem OwnC.of_tr {p : Pl} {v : V} {x : Value} (h : Tr G.S G.β v x) : OwnC G w p v x := OwnC.of_view h (by rintro sz l rfl; cases h)
theorem OwnV.of_tr' {p : Nat → Pl} {v : V} {x : Value} (h : Tr G.S G.β v x) : OwnV G w p v x := by
  cases v
  case agg l =>
    obtain ⟨cs, rfl, hl, hT⟩ := h.agg_inv
    exact ⟨cs, rfl, hl, fun j hj => OwnC.of_tr (hT j hj)⟩
  all_goals exact (OwnC.of_tr (w := w) (p := p 0) h)
theorem OwnS.of_tr' {p : Nat → Nat → Pl} {v : V} {x : Value} (h : Tr G.S G.β v x) : OwnS G w p v x := by
  cases v
  case tup l => cases h
  all_goals exact (OwnV.of_tr' (w := w) (p := p 0) h)
theorem OpOk.tr (h : Rel G s a w) {v : V} {x : Value} (hr : (execOp a.eval o).run P w = .ok (.value x) w) (hT : Tr G.S G.β v x) : OpOk P o G s a w v s :=
  ⟨x, w, G, hr, h, OwnS.of_tr' hT, Fr.refl _ _ _⟩
theorem Tr.imp_inv {S β} {l : List V} {x : Value} (h : Tr S β (.imp l) x) : ∃ (b o : Nat) (c : Nat → Value), x = .pointer (some ⟨b, o, none⟩) ∧ l.all pureC = true ∧ (∀ j, j < l.length → S b (o + j) = some (c j)) ∧ ∀ j, j < l.length → Tr S β (l.getD j .undef) (c j) := by
  cases h with
  | imp _ b o c hp hS hT => exact ⟨b, o, c, rfl, hp, hS, hT⟩
theorem Tr.ptr_inv {S β} {lv t off : Nat} {x : Value} (h : Tr S β (.ptr lv t off) x) : ∃ g, β lv t = some g ∧ x = .pointer (some ⟨g, off, none⟩) := by
  cases h with
  | ptr _ _ _ g hg => exact ⟨g, hg, rfl⟩
theorem Tr.eptr_inv {S β} {lv t i sz : Nat} {x : Value} (h : Tr S β (.eptr lv t i sz) x) : ∃ g, β lv t = some g ∧ x = .pointer (some ⟨g, i * sz, none⟩) := by
  cases h with
  | eptr _ _ _ g _ hg => exact ⟨g, hg, rfl⟩
theorem Tr.aref_inv {S β} {lv t n : Nat} {x : Value} (h : Tr S β (.aref lv t n) x) : ∃ g cap, β lv t = some g ∧ n ≤ cap ∧ x = .slice (some ⟨g, 0, none⟩) n cap := by
  cases h with
  | aref _ _ _ g cap hg hc => exact ⟨g, cap, hg, hc, rfl⟩
theorem Tr.mp_inv {S β} {lv t : Nat} {x : Value} (h : Tr S β (.mp lv t) x) : ∃ g, β lv t = some g ∧ x = .map (some g) := by
  cases h with
  | mp _ _ g hg => exact ⟨g, hg, rfl⟩
theorem Tr.fn_inv {S β} {f : Nat} {c : List V} {x : Value} (h : Tr S β (.fn f c) x) : ∃ cs, x = .func (.func f) #[] cs ∧ c.length = cs.size ∧ ∀ i, i < c.length → Tr S β (c.getD i .undef) (cs.getD i Go.undef) := by
  cases h with
  | fn _ _ cs hl hT => exact ⟨cs, rfl, hl, hT⟩

/-! ### parts -/
theorem getD_array_of {cs : Array Value} {j : Nat} (h : j < cs.size) : cs.getD j Go.undef = cs[j] := by simp [Array.getD, h]
theorem part_run {t : TypeId} (hz : szOf P t ≠ 0) {cs : Array Value} {off : Nat} (hb : off + szOf P t ≤ cs.size) (w : World) :
    ∃ x, (part t cs off).run P w = .ok x w ∧ x = if isAgg P t = true then .agg (cs.extract off (off + szOf P t)) else cs.getD off Go.undef := by
  obtain ⟨i, d, h1, h2, h3, h4⟩ := szOf_ne hz
  unfold part
  have hlt : off < cs.size := by omega
  simp only [Sem.run_bind, run_isAgg' (P := P) (t := t) (by rw [h2]; rfl), Result.andThen_ok]
  by_cases ha : isAgg P t = true
  · simp only [ha, if_true, Sem.run_bind, run_sizeOf' hz, Result.andThen_ok, Sem.run_pure]
    exact ⟨_, rfl, rfl⟩
  · simp only [ha, Bool.false_eq_true, if_false, Array.getElem?_eq_getElem hlt, Sem.run_pure]
    exact ⟨_, rfl, (getD_array_of hlt).symm⟩
theorem pack_tr {S β} {l : List V} {c : Nat → Value} {ag : Bool} {x : Value} {n : Nat} (hn : 0 < n) (hl : l.length = n) (hT : ∀ j, j < n → Tr S β (l.getD j .undef) (c j)) (hx : x = if ag = true then .agg ((List.range n).map c).toArray else c 0) : Tr S β (pack ag l) x := by
  subst hx
  cases ag
  · have := hT 0 hn
    simp only [pack, Bool.false_eq_true, if_false]
    cases l with
    | nil => simp at hl; omega
    | cons v l => exact this
  · simp only [pack, if_true]
    refine .agg _ _ (by simp [hl]) fun i hi => ?_
    have hi' : i < n := by omega
    have : ((List.range n).map c).toArray.getD i Go.undef = c i := by
      simp [Array.getD, hi']
    rw [this]
    exact hT i hi'
theorem extract_eq {cs : Array Value} {off n : Nat} (h : off + n ≤ cs.size) : cs.extract off (off + n) = ((List.range n).map fun j => cs.getD (off + j) Go.undef).toArray := by
  apply Array.ext
  · simp; omega
  · intro i h1 h2
    have h3 : i < n := by simpa using h2
    have h4 : off + i < cs.size := by omega
    simp [Array.getD, h4]
theorem getD_drop_take (l : List V) (off n j : Nat) (h : j < n) : ((l.drop off).take n).getD j .undef = l.getD (off + j) .undef := by
  simp [List.getD_eq_getElem?_getD, List.getElem?_take, h]
theorem op_field {x : Operand} {t : TypeId} {f : Nat} {v : V} (h : Rel G s a w) (hv : vField P s t f (s.see P t x) = some v) : OpOk P ⟨d, .field t x f, ty, pos, af, gd⟩ G s a w v s := by
  have h1 := h.see P t x
  unfold vField at hv
  split at hv
  · rename_i fs hu
    generalize s.see P t x = u at hv h1
    split at hv
    · rename_i fd l hf
      split at hv
      · rename_i hz
        obtain rfl := Option.some.inj hv
        obtain ⟨cs, hx, hl, hT⟩ := h1.agg_inv
        obtain ⟨y, hy, hy'⟩ := part_run (P := P) hz.2 (cs := cs) (off := fd.offset) (by omega) w
        refine OpOk.tr h (x := y) ?_ (pack_tr (c := fun j => cs.getD (fd.offset + j) Go.undef) (n := szOf P fd.type) (by omega) (by simp; omega) (fun j hj => ?_) ?_)
        · simp only [execOp]
          refine run_val ?_
          simp [Instr.field, run_underlying hu, hf, hx, asAgg, hy]
        · rw [getD_drop_take _ _ _ _ hj]
          exact hT _ (by omega)
        · rw [hy', extract_eq (by omega)]
          rfl
      · cases hv
    · cases hv
  · cases hv
theorem elemSz_ne {t e : TypeId} (hu : P.underlying t = some (.slice e)) : elemSz P t = szOf P e := by simp [elemSz, elemOf, hu]
theorem op_indexAddr {x i : Operand} {t : TypeId} {v : V} (h : Rel G s a w) (hv : vIndexAddr P t (s.see P t x) (s.see P 0 i) = some v) : OpOk P ⟨d, .indexAddr t x i, ty, pos, af, gd⟩ G s a w v s := by
  have h1 := h.see P t x
  have h2 := h.see P 0 i
  have h0 : ∀ own sz l, s.see P t x = .slc own sz l → own = false := fun own sz l e => see_slc e
  unfold vIndexAddr at hv
  generalize s.see P t x = u at hv h1 h0
  generalize s.see P 0 i = m at hv h2
  split at hv
  · rename_i own sz l k n
    split at hv
    · rename_i hc
      split at hv
      · rename_i hb
        obtain rfl := Option.some.inj hv
        obtain rfl := h0 _ _ _ rfl
        obtain ⟨e, hu, he⟩ := isSl_spec hc.1
        rcases h1.slc_inv with ⟨rfl, _⟩ | ⟨b, o, cap, c, hx, hcap, hs, hS, hT⟩
        · simp at hb; omega
        · have hi := h2.int_inv
          have hn : n.toNat < l.length := by omega
          have hz : szOf P e ≠ 0 := by rw [← elemSz_ne hu, ← hc.2.1]; exact hc.2.2
          have hsz : sz = szOf P e := by rw [hc.2.1, elemSz_ne hu]
          have hfl : (l.getD n.toNat (dflt P t)).flat = (l.getD n.toNat .undef).flat := by
            simp [List.getD_eq_getElem?_getD, List.getElem?_eq_getElem hn]
          have hlen : (l.getD n.toNat .undef).flat.length = sz ∧ (l.getD n.toNat .undef).flat.all pureC = true := by
            refine hs _ ?_
            rw [List.getD_eq_getElem?_getD, List.getElem?_eq_getElem hn]
            exact List.getElem_mem hn
          refine OpOk.tr h (x := .pointer (some ⟨b, o + n.toNat * szOf P e, none⟩)) ?_ ?_
          · simp only [execOp]
            refine run_val ?_
            simp [Instr.indexAt, hi, asIntOf, run_underlying hu, hx, hb.1, hb.2, run_sizeOf' hz, add_eq]
          · rw [hfl]
            refine Tr.imp _ _ _ (c n.toNat) hlen.2 (fun j hj => ?_) (fun j hj => ?_)
            · rw [← hsz]; exact hS _ _ hn (by omega)
            · exact hT _ _ hn (by omega)
      · cases hv
    · cases hv
  · rename_i lv u' m k n
    split at hv
    · rename_i hc
      split at hv
      · rename_i hb
        obtain rfl := Option.some.inj hv
        obtain ⟨e, hu, he⟩ := isSl_spec hc.1
        obtain ⟨g, cap, hg, _, hx⟩ := h1.aref_inv
        have hi := h2.int_inv
        have hz : szOf P e ≠ 0 := by rw [← elemSz_ne hu]; exact hc.2
        refine OpOk.tr h (x := .pointer (some ⟨g, n.toNat * szOf P e, none⟩)) ?_ ?_
        · simp only [execOp]
          refine run_val ?_
          simp [Instr.indexAt, hi, asIntOf, run_underlying hu, hx, hb.1, hb.2, run_sizeOf' hz, add_eq]
        · rw [elemSz_ne hu]; exact Tr.eptr _ _ _ _ _ hg
      · cases hv
    · cases hv
  · rename_i lv u' off k n
    split at hv
    · rename_i m e hu
      split at hv
      · rename_i hz
        split at hv
        · rename_i hb
          obtain rfl := Option.some.inj hv
          obtain ⟨g, hg, hx⟩ := h1.ptr_inv
          have hi := h2.int_inv
          refine OpOk.tr h (x := .pointer (some ⟨g, off + n.toNat * szOf P e, none⟩)) ?_ (Tr.ptr _ _ _ _ hg)
          simp only [execOp]
          refine run_val ?_
          simp [Instr.indexAt, hi, asIntOf, run_underlying hu, hx, hb.1, hb.2, run_sizeOf' hz, add_eq, Instr.sureAddr]
        · cases hv
      · cases hv
    · cases hv
  · cases hv
theorem op_index {x i : Operand} {t : TypeId} {v : V} (h : Rel G s a w) (hv : vIndex P t (s.see P t x) (s.see P 0 i) = some v) : OpOk P ⟨d, .index t x i, ty, pos, af, gd⟩ G s a w v s := by
  have h1 := h.see P t x
  have h2 := h.see P 0 i
  unfold vIndex at hv
  generalize s.see P t x = u at hv h1
  generalize s.see P 0 i = m at hv h2
  split at hv
  · rename_i b k n
    split at hv
    · rename_i hc
      split at hv
      · rename_i hb
        obtain rfl := Option.some.inj hv
        have hu := isStr_spec hc
        have hi := h2.int_inv
        have hx := h1.str_inv
        have hn : n.toNat < b.size := by omega
        refine OpOk.tr h (x := .int .u8 (bt b n)) ?_ (Tr.int _ _)
        simp only [execOp]
        refine run_val ?_
        simp [Instr.index, hi, asIntOf, run_underlying hu, hx, hb.1, hn, bt]
      · cases hv
    · cases hv
  · rename_i l k n
    split at hv
    · rename_i m e hu
      split at hv
      · rename_i hz
        split at hv
        · rename_i hb
          obtain rfl := Option.some.inj hv
          obtain ⟨cs, hx, hl, hT⟩ := h1.agg_inv
          have hi := h2.int_inv
          have hle : n.toNat * szOf P e + szOf P e ≤ cs.size := by
            rw [← hl, hz.2]
            have : n.toNat + 1 ≤ m := by omega
            calc n.toNat * szOf P e + szOf P e = (n.toNat + 1) * szOf P e := by rw [Nat.succ_mul]
              _ ≤ m * szOf P e := Nat.mul_le_mul_right _ this
          obtain ⟨y, hy, hy'⟩ := part_run (P := P) hz.1 hle w
          refine OpOk.tr h (x := y) ?_ (pack_tr (c := fun j => cs.getD (n.toNat * szOf P e + j) Go.undef) (n := szOf P e) (by omega) (by simp; omega) (fun j hj => ?_) ?_)
          · simp only [execOp]
            refine run_val ?_
            simp [Instr.index, hi, asIntOf, run_underlying hu, hx, hb.1, hb.2, run_sizeOf' hz.1, hy]
          · rw [getD_drop_take _ _ _ _ hj]
            exact hT _ (by omega)
          · rw [hy', extract_eq hle]
            rfl
        · cases hv
      · cases hv
    · cases hv
  · cases hv
end Go.Ev
namespace Go.Ev
open Go
set_option linter.unusedVariables false
set_option linter.unusedSimpArgs false
variable {P : Program} {G : Gh} {s : St} {a : Act} {w : World} {o : Oper}
variable {d : Option Nat} {ty : TypeId} {pos : String} {af : Array Edge} {gd : Option (Nat × Bool)}

theorem optInt_inv (h : Rel G s a w) {lo : Option Operand} {l : Option Int} (hl : optInt (lo.map (s.see P 0)) = some l) : (l = none ∧ lo.map a.eval = none) ∨ ∃ k n, l = some n ∧ lo.map a.eval = some (.int k n) := by
  cases lo with
  | none => simp [optInt] at hl; exact .inl ⟨hl.symm, rfl⟩
  | some x =>
    have h1 := h.see P 0 x
    simp only [Option.map_some] at hl
    generalize s.see P 0 x = u at hl h1
    cases u <;> simp only [optInt, reduceCtorEq, Option.some.injEq] at hl
    subst hl
    exact .inr ⟨_, _, rfl, by rw [Option.map_some, h1.int_inv]⟩
theorem bound_run {k : IntKind} {n : Int} {y : Nat} {code : BoundsCode} (h0 : 0 ≤ n) (h1 : n ≤ y) (w : World) : (Instr.sliceBound (.int k n) y code).run P w = .ok n.toNat w := by
  simp [Instr.sliceBound, asIntOf, h0, h1]
theorem bounds_run {lo hi mx : Option Value} {l h m : Option Int} {sl : Bool} {len cap : Nat} (hlo : (l = none ∧ lo = none) ∨ ∃ k n, l = some n ∧ lo = some (.int k n)) (hhi : (h = none ∧ hi = none) ∨ ∃ k n, h = some n ∧ hi = some (.int k n))
    (hmx : (m = none ∧ mx = none) ∨ ∃ k n, m = some n ∧ mx = some (.int k n)) (hc : len ≤ cap) (h0 : 0 ≤ l.getD 0) (h1 : l.getD 0 ≤ h.getD len) (h2 : h.getD len ≤ len) (h3 : ∀ n, m = some n → n = h.getD len ∧ h.isSome = true) (w : World) :
    (Instr.sliceBounds sl len cap lo hi mx).run P w = .ok ((l.getD 0).toNat, (h.getD len).toNat, (m.getD cap).toNat) w := by
  unfold Instr.sliceBounds
  rcases hmx with ⟨rfl, rfl⟩ | ⟨km, nm, rfl, rfl⟩
  · rcases hhi with ⟨rfl, rfl⟩ | ⟨kh, nh, rfl, rfl⟩ <;> rcases hlo with ⟨rfl, rfl⟩ | ⟨kl, nl, rfl, rfl⟩ <;> simp only [Option.getD_some, Option.getD_none] at h0 h1 h2 ⊢
    · simp
    · simp [bound_run h0 h1]
    · simp [bound_run (show (0:Int) ≤ nh by omega) (show nh ≤ (cap:Int) by omega)]
    · simp [bound_run (show (0:Int) ≤ nh by omega) (show nh ≤ (cap:Int) by omega), bound_run h0 (show nl ≤ (nh.toNat : Int) by omega)]
  · obtain ⟨e1, e2⟩ := h3 _ rfl
    rcases hhi with ⟨rfl, rfl⟩ | ⟨kh, nh, rfl, rfl⟩
    · cases e2
    · simp only [Option.getD_some] at e1 h1 h2
      subst e1
      rcases hlo with ⟨rfl, rfl⟩ | ⟨kl, nl, rfl, rfl⟩ <;> simp only [Option.getD_some, Option.getD_none] at h0 h1 ⊢
      · simp [bound_run (show (0:Int) ≤ nm by omega) (show nm ≤ (cap:Int) by omega), bound_run (show (0:Int) ≤ nm by omega) (show nm ≤ (nm.toNat : Int) by omega)]
      · simp [bound_run (show (0:Int) ≤ nm by omega) (show nm ≤ (cap:Int) by omega), bound_run (show (0:Int) ≤ nm by omega) (show nm ≤ (nm.toNat : Int) by omega), bound_run h0 (show nl ≤ (nm.toNat : Int) by omega)]
theorem mem_drop_take {α : Type} {l : List α} {i j : Nat} {x : α} (h : x ∈ (l.take i).drop j) : x ∈ l := List.mem_of_mem_take (List.mem_of_mem_drop h)
theorem op_slice {x : Operand} {lo hi mx : Option Operand} {t : TypeId} {l r m : Option Int} {v : V} (h : Rel G s a w) (hl : optInt (lo.map (s.see P 0)) = some l) (hr : optInt (hi.map (s.see P 0)) = some r) (hm : optInt (mx.map (s.see P 0)) = some m)
    (hv : sliceV P t (s.see P t x) l r m = some v) : OpOk P ⟨d, .slice t x lo hi mx, ty, pos, af, gd⟩ G s a w v s := by
  have h1 := h.see P t x
  have h0 : ∀ own sz l, s.see P t x = .slc own sz l → own = false := fun own sz l e => see_slc e
  have g1 := optInt_inv h hl
  have g2 := optInt_inv h hr
  have g3 := optInt_inv h hm
  unfold sliceV at hv
  generalize s.see P t x = u at hv h1 h0
  split at hv
  · rename_i b
    split at hv
    · cases hv
    · split at hv
      · rename_i hc
        obtain rfl := Option.some.inj hv
        have hu := isStr_spec hc.1
        refine OpOk.tr h (x := .string (b.extract (l.getD 0).toNat (r.getD b.size).toNat)) ?_ (Tr.str _)
        simp only [execOp]
        refine run_val ?_
        rcases g3 with ⟨_, e3⟩ | ⟨_, _, e3, _⟩
        · have := bounds_run (P := P) (sl := false) (len := b.size) (cap := b.size) (m := none) g1 g2 (.inl ⟨rfl, rfl⟩) (Nat.le_refl _) hc.2.1 hc.2.2.1 hc.2.2.2 (fun n e => by cases e) w
          simp only [Instr.sliceAt, Sem.run_bind, run_underlying hu, Result.andThen_ok, Instr.slice, h1.str_inv, e3]
          simp only [Option.isSome_none, Bool.false_eq_true, if_false, Sem.run_bind, Sem.run_pure, Result.andThen_ok]
          rw [this]
          rfl
        · cases e3
      · cases hv
  · rename_i own sz xs
    obtain rfl := h0 _ _ _ rfl
    split at hv
    · rename_i hc
      obtain ⟨hsl, hsz, hnz, hb0, hb1, hb2⟩ := hc
      obtain ⟨e, hu, he⟩ := isSl_spec hsl
      have hz : szOf P e ≠ 0 := by rw [← elemSz_ne hu, ← hsz]; exact hnz
      have hse : sz = szOf P e := by rw [hsz, elemSz_ne hu]
      have hm3 : ∀ n, m = some n → n = r.getD xs.length ∧ r.isSome = true := by
        rintro n rfl
        simp only at hv
        split at hv
        · assumption
        · cases hv
      -- what the machine gives
      have key : ∃ y cap', (Instr.sliceAt t (a.eval x) (lo.map a.eval) (hi.map a.eval) (mx.map a.eval)).run P w = .ok y w ∧ Tr G.S G.β (.slc false sz ((xs.take (r.getD xs.length).toNat).drop (l.getD 0).toNat)) y ∧ (∃ A, y = .slice A ((xs.take (r.getD xs.length).toNat).drop (l.getD 0).toNat).length cap') ∧ (m.isSome = true → cap' = ((xs.take (r.getD xs.length).toNat).drop (l.getD 0).toNat).length) := by
        have hlen : ((xs.take (r.getD xs.length).toNat).drop (l.getD 0).toNat).length = (r.getD xs.length).toNat - (l.getD 0).toNat := by simp; omega
        rcases h1.slc_inv with ⟨rfl, A0, cap0, hx⟩ | ⟨b, o, cap, c, hx, hcap, hs, hS, hT⟩
        · have hb := bounds_run (P := P) (sl := true) (len := 0) (cap := cap0) (m := m) g1 g2 g3 (Nat.zero_le _) hb0 hb1 hb2 hm3 w
          have hn : ([] : List V).length = 0 := rfl
          have e1 : (l.getD 0).toNat = 0 := by omega
          have e2 : (r.getD (([] : List V).length : Int)).toNat = 0 := by omega
          generalize hM : (m.getD ((cap0 : Nat) : Int)).toNat = M at hb
          have e2' : (r.getD ((0 : Nat) : Int)).toNat = 0 := e2
          rw [e1, e2'] at hb
          have hMs : m.isSome = true → M = 0 := by
            intro hms
            cases m with
            | none => cases hms
            | some n =>
              have h7 := (hm3 n rfl).1
              simp only [Option.getD_some] at hM
              have h8 : (r.getD (([] : List V).length : Int)) = r.getD ((0 : Nat) : Int) := rfl
              rw [h8] at h7
              omega
          refine ⟨.slice (A0.map fun a => if M = 0 then a else a.add (0 * szOf P e)) 0 M, M, ?_, ?_, ⟨_, by simp; rfl⟩, fun h => by simp [hMs h]⟩
          · simp only [Instr.sliceAt, Sem.run_bind, run_underlying hu, Result.andThen_ok, Instr.slice, hx, hb, run_sizeOf' hz, Sem.run_pure]
            simp
            cases A0 <;> simp
            split <;> rfl
          · simp only [List.take_nil, List.drop_nil]; exact Tr.slc0 _ _ _
        · have hb := bounds_run (P := P) (sl := true) (len := xs.length) (cap := cap) (m := m) g1 g2 g3 hcap hb0 hb1 hb2 hm3 w
          have hmc : (r.getD xs.length).toNat ≤ (m.getD cap).toNat := by
            cases m with
            | none => simp only [Option.getD_none]; omega
            | some n => have := (hm3 n rfl).1; simp only [Option.getD_some]; omega
          generalize hL : (l.getD 0).toNat = L at *
          generalize hR : (r.getD xs.length).toNat = R at *
          generalize hM : (m.getD cap).toNat = M at *
          have hLR : L ≤ R := by omega
          have hRx : R ≤ xs.length := by omega
          refine ⟨.slice (if M = L then some ⟨b, o, none⟩ else some ⟨b, o + L * szOf P e, none⟩) (R - L) (M - L), M - L, ?_, ?_, ⟨_, by rw [hlen]⟩, fun hms => ?_⟩
          · simp only [Instr.sliceAt, Sem.run_bind, run_underlying hu, Result.andThen_ok, Instr.slice, hx, hb, run_sizeOf' hz, Sem.run_pure, Option.map_some, add_eq]
          · have h5 : ((xs.take R).drop L).length ≤ M - L := by omega
            rw [← hlen]
            by_cases hML : M = L
            · have hnil : (xs.take R).drop L = [] := by
                apply List.eq_nil_of_length_eq_zero
                omega
              rw [if_pos hML, hnil]
              exact Tr.slc _ _ b o _ (fun _ _ => Go.undef) (Nat.zero_le _) (fun x hx => by cases hx) (fun i j hi => absurd hi (Nat.not_lt_zero _)) (fun i j hi => absurd hi (Nat.not_lt_zero _))
            · rw [if_neg hML]
              refine Tr.slc _ _ b _ _ (fun i j => c (L + i) j) h5 (fun x hx => hs x (mem_drop_take hx)) (fun i j hi hj => ?_) (fun i j hi hj => ?_)
              · have := hS (L + i) j (by omega) hj
                rw [Nat.add_mul, hse] at this
                rw [hse, show o + L * szOf P e + i * szOf P e + j = o + (L * szOf P e + i * szOf P e) + j by omega]
                exact this
              · have h6 : ((xs.take R).drop L).getD i .undef = xs.getD (L + i) .undef := by
                  simp only [List.getD_eq_getElem?_getD, List.getElem?_drop, List.getElem?_take]
                  rw [if_pos (by omega)]
                rw [h6]
                exact hT _ _ (by omega) hj
          · rw [hlen]
            cases m with
            | none => cases hms
            | some n =>
              have := (hm3 n rfl).1
              simp only [Option.getD_some] at hM
              omega
      obtain ⟨y, cap', k1, k2, ⟨A, k3⟩, k4⟩ := key
      split at hv
      · split at hv
        · obtain rfl := Option.some.inj hv
          exact ⟨y, w, G, by simp only [execOp]; exact run_val k1, h, ⟨k2, A, cap', k3, .inl (k4 rfl)⟩, Fr.refl _ _ _⟩
        · cases hv
      · obtain rfl := Option.some.inj hv
        exact OpOk.tr h (by simp only [execOp]; exact run_val k1) k2
    · cases hv
  · cases hv
theorem mapOpt_spec {α β : Type} {f : α → Option β} : ∀ {l : List α} {m : List β}, mapOpt f l = some m → l.length = m.length ∧ ∀ (i : Nat) (x : α), l[i]? = some x → ∃ y, m[i]? = some y ∧ f x = some y := by
  intro l
  induction l with
  | nil => intro m h; simp only [mapOpt, Option.some.injEq] at h; subst h; exact ⟨rfl, fun i x hx => by simp at hx⟩
  | cons a l ih =>
    intro m h
    simp only [mapOpt] at h
    split at h
    · rename_i b m' hb hm
      obtain rfl := Option.some.inj h
      obtain ⟨h1, h2⟩ := ih hm
      refine ⟨by simp [h1], fun i x hx => ?_⟩
      cases i with
      | zero => simp only [List.getElem?_cons_zero, Option.some.injEq] at hx; subst hx; exact ⟨b, rfl, hb⟩
      | succ i => exact h2 i x (by simpa using hx)
    · cases h
/-- the cells of a row that is read: what the machine loads -/
theorem slc_cells (h : Rel G s a w) {sz : Nat} {l : List V} {b o : Nat} {c : Nat → Nat → Value} (hS : ∀ i j, i < l.length → j < sz → G.S b (o + i * sz + j) = some (c i j)) (P : Program) :
    (loadCells ⟨b, o, none⟩ (l.length * sz)).run P w = .ok (((List.range (l.length * sz)).map fun k => c (k / sz) (k % sz)).toArray) w := by
  have := run_loadCells_list (P := P) (w := w) ⟨b, o, none⟩ ((List.range (l.length * sz)).map fun k => c (k / sz) (k % sz)) ?_
  · simpa using this
  · intro j v hj
    rw [List.getElem?_map] at hj
    cases hr : (List.range (l.length * sz))[j]? with
    | none => simp [hr] at hj
    | some k =>
      simp only [hr, Option.map_some, Option.some.injEq] at hj
      subst hj
      have hk : k = j ∧ j < l.length * sz := by
        rcases Nat.lt_or_ge j (l.length * sz) with h' | h'
        · rw [List.getElem?_range h'] at hr
          exact ⟨(Option.some.inj hr).symm, h'⟩
        · rw [List.getElem?_eq_none (by simpa using h')] at hr; cases hr
      obtain ⟨rfl, hlt⟩ := hk
      have hz : 0 < sz := by
        rcases Nat.eq_zero_or_pos sz with h0 | h0
        · subst h0; simp at hlt
        · exact h0
      have h1 : k / sz < l.length := Nat.div_lt_of_lt_mul (by rw [Nat.mul_comm]; exact hlt)
      have h2 : k % sz < sz := Nat.mod_lt _ hz
      have h3 := h.imm _ _ _ (hS _ _ h1 h2)
      rw [add_eq]
      rw [show o + k = o + k / sz * sz + k % sz by have := Nat.div_add_mod k sz; rw [Nat.mul_comm] at this; omega]
      exact h3
theorem op_convert {x : Operand} {src dst : TypeId} {v : V} (h : Rel G s a w) (hv : convV P src dst (s.see P src x) = some v) : OpOk P ⟨d, .convert src dst x, ty, pos, af, gd⟩ G s a w v s := by
  have h1 := h.see P src x
  have h0 : ∀ own sz l, s.see P src x = .slc own sz l → own = false := fun own sz l e => see_slc e
  unfold convV at hv
  generalize s.see P src x = u at hv h1 h0
  split at hv
  · rename_i k n k' n' hs hd
    obtain rfl := Option.some.inj hv
    refine OpOk.tr h (x := .int _ _) ?_ (Tr.int _ _)
    simp only [execOp]
    refine run_val ?_
    simp [convert, run_underlying hs, run_underlying hd, h1.int_inv, Conv.intToInt]
  · rename_i b hs hd
    obtain rfl := Option.some.inj hv
    refine OpOk.tr h (x := .string b) ?_ (Tr.str _)
    simp only [execOp]
    refine run_val ?_
    simp [convert, run_underlying hs, run_underlying hd, h1.str_inv]
  · rename_i e own sz l hs hd
    split at hv
    · rename_i ns he hm
      split at hv
      · rename_i hz
        subst hz
        obtain rfl := Option.some.inj hv
        obtain rfl := h0 _ _ _ rfl
        obtain ⟨hl, hn⟩ := mapOpt_spec hm
        rcases h1.slc_inv with ⟨rfl, A0, cap0, hx⟩ | ⟨b, o, cap, c, hx, hcap, hsz, hS, hT⟩
        · obtain rfl : ns = [] := List.eq_nil_of_length_eq_zero (by simpa using hl.symm)
          refine OpOk.tr h (x := .string (ofInts [])) ?_ (Tr.str _)
          simp only [execOp]
          refine run_val ?_
          rw [hx, run_convert_bytes_string w src dst e _ _ _ hs he hd]
          cases A0 <;> rfl
        · refine OpOk.tr h (x := .string (ofInts ns)) ?_ (Tr.str _)
          simp only [execOp]
          refine run_val ?_
          rw [hx, run_convert_bytes_string w src dst e _ _ _ hs he hd]
          refine run_bytesToString w _ _ _ ns ?_
          have := slc_cells h hS P
          rw [Nat.mul_one] at this
          rw [this]
          congr 2
          apply List.ext_getElem?
          intro i
          by_cases hi : i < l.length
          · have hi' : i < ns.length := by omega
            obtain ⟨y, hy, hy'⟩ := hn i _ (List.getElem?_eq_getElem hi)
            have := hT i 0 hi (by omega)
            rw [List.getElem?_map, List.getElem?_range (by simpa using hi), List.getElem?_map, hy]
            simp only [Option.map_some, Nat.div_one, Nat.mod_one]
            simp only [List.getD_eq_getElem?_getD, List.getElem?_eq_getElem hi, Option.getD_some] at this
            generalize l[i] = z at hy' this
            cases z <;> simp only [u8, reduceCtorEq] at hy'
            rename_i k m
            cases k <;> simp only [u8, reduceCtorEq, Option.some.injEq] at hy'
            subst hy'
            have := this.int_inv
            rw [this]
          · simp [List.getElem?_eq_none (show ns.length ≤ i by omega), hi]
      · cases hv
    · cases hv
  · cases hv
theorem op_makeFunc {f : Nat} {caps : Array Operand} {cs : List V} (h : Rel G s a w) (hc : mapOpt (fun x => match s.see P 0 x with | .ptr lv t off => some (V.ptr lv t off) | _ => none) caps.toList = some cs) :
    OpOk P ⟨d, .makeFunc (.func f) #[] caps, ty, pos, af, gd⟩ G s a w (.fn f cs) s := by
  obtain ⟨hl, hn⟩ := mapOpt_spec hc
  refine OpOk.tr h (x := .func (.func f) #[] (caps.map a.eval)) (by simp [execOp, Instr.makeFunc]) (Tr.fn _ _ _ (by simpa using hl.symm) fun i hi => ?_)
  have hi' : i < caps.size := by have := hl; simp at this; omega
  obtain ⟨y, hy, hy'⟩ := hn i caps[i] (by simp [hi'])
  have h1 := h.see P 0 caps[i]
  have e1 : cs.getD i .undef = y := by simp [List.getD_eq_getElem?_getD, hy]
  have e2 : (caps.map a.eval).getD i Go.undef = a.eval caps[i] := by simp [Array.getD, hi']
  rw [e1, e2]
  split at hy'
  · rename_i lv t off hs
    obtain rfl := Option.some.inj hy'
    rw [hs] at h1
    exact h1
  · cases hy'
end Go.Ev
namespace Go.Ev
open Go
set_option linter.unusedVariables false
set_option linter.unusedSimpArgs false
variable {P : Program} {G : Gh} {s : St} {a : Act} {w : World} {o : Oper}
variable {d : Option Nat} {ty : TypeId} {pos : String} {af : Array Edge} {gd : Option (Nat × Bool)}

theorem setIn_length (t : Nat) (ob : Ob) (lv : Nat) : ∀ o : List (Nat → Option Ob), (setIn t ob lv o).length = o.length := by
  intro o
  induction o with
  | nil => rfl
  | cons f o ih => simp only [setIn]; split <;> simp [ih]
theorem obIn_setIn (t : Nat) (ob : Ob) (lv : Nat) : ∀ (o : List (Nat → Option Ob)) (t' lv' : Nat), (∃ x, obIn t lv o = some x) → obIn t' lv' (setIn t ob lv o) = if lv' = lv ∧ t' = t then some ob else obIn t' lv' o := by
  intro o
  induction o with
  | nil => intro t' lv' h; obtain ⟨x, hx⟩ := h; cases hx
  | cons f o ih =>
    intro t' lv' h
    simp only [setIn]
    by_cases h1 : lv = o.length
    · rw [if_pos h1]
      simp only [obIn]
      by_cases h2 : lv' = o.length
      · rw [if_pos h2, if_pos h2]
        by_cases h3 : t' = t
        · simp [upd, h3, h1, h2]
        · simp [upd, h3]
      · rw [if_neg h2, if_neg h2]
        rw [if_neg (fun e => h2 (e.1.trans h1))]
    · rw [if_neg h1]
      simp only [obIn, setIn_length]
      by_cases h2 : lv' = o.length
      · rw [if_pos h2, if_pos h2, if_neg (fun e => h1 (e.1.symm.trans h2))]
      · rw [if_neg h2, if_neg h2]
        refine ih t' lv' ?_
        obtain ⟨x, hx⟩ := h
        simp only [obIn, if_neg h1] at hx
        exact ⟨x, hx⟩
theorem setOb_lv (lv u : Nat) (ob : Ob) : (s.setOb lv u ob).lv = s.lv := by
  unfold St.setOb St.lv
  split
  · rfl
  · exact setIn_length _ _ _ _
theorem setOb_t (lv u : Nat) (ob : Ob) : (s.setOb lv u ob).t = s.t := by unfold St.setOb; split <;> rfl
theorem setOb_n (lv u : Nat) (ob : Ob) : (s.setOb lv u ob).n = s.n := by unfold St.setOb; split <;> rfl
theorem ob_setOb {lv u : Nat} {old : Ob} (h : s.ob lv u = some old) (ob : Ob) (lv' t' : Nat) : (s.setOb lv u ob).ob lv' t' = if lv' = lv ∧ t' = u then some ob else s.ob lv' t' := by
  unfold St.setOb
  unfold St.ob at h ⊢
  by_cases h1 : lv = s.o.length
  · rw [if_pos h1]
    simp only [obIn]
    by_cases h2 : lv' = s.o.length
    · rw [if_pos h2, if_pos h2]
      by_cases h3 : t' = u
      · simp [upd, h3, h1, h2]
      · simp [upd, h3]
    · rw [if_neg h2, if_neg h2, if_neg (fun e => h2 (e.1.trans h1))]
  · rw [if_neg h1]
    simp only [obIn, setIn_length]
    by_cases h2 : lv' = s.o.length
    · rw [if_pos h2, if_pos h2, if_neg (fun e => h1 (e.1.symm.trans h2))]
    · rw [if_neg h2, if_neg h2]
      refine obIn_setIn u ob lv s.o t' lv' ⟨old, ?_⟩
      simpa only [obIn, if_neg h1] using h
/-- an object has turned; what else was said stands -/
theorem Rel.setOb {G G' : Gh} {w w' : World} (h : Rel G s a w) {lv u g : Nat} {old ob : Ob} (ho : s.ob lv u = some old) (hg : G.β lv u = some g) (hgo : G.ω g = some (.ob lv u)) (hle : Le G G') (hβ : G'.β = G.β)
    (hs : ∀ k p, k ≠ g → (∀ j, p ≠ .cl lv u j) → (∀ c j, p ≠ .rs c j) → G.ω k = some p → w'.heap[k]? = w.heap[k]? ∧ (∀ j, G'.S k j = G.S k j) ∧ G'.ω k = some p)
    (himm : ∀ g j c, G'.S g j = some c → w'.cell? ⟨g, j, none⟩ = some c) (hlim : ∀ g p, G'.ω g = some p → g < w'.heap.size) (hgω : G'.ω g = some (.ob lv u)) (hnew : ObR G' w' lv u g ob) : Rel G' (s.setOb lv u ob) a w' := by
  refine ⟨by rw [setOb_n]; exact h.size, h.defers, fun t => ?_, fun lv' t' ob' hob => ?_, fun lv' t' g' hg' => ?_, himm, hlim⟩
  · rw [setOb_t, setOb_lv]
    refine (h.slot t).mono hle fun c j k hk => ?_
    exact hs k _ (by rintro rfl; rw [hgo] at hk; cases hk) (fun j e => by cases e) (fun _ _ e => by cases e) hk
  · rw [ob_setOb ho] at hob
    split at hob
    · rename_i he
      obtain ⟨rfl, rfl⟩ := he
      obtain rfl := Option.some.inj hob
      exact ⟨g, by rw [hβ]; exact hg, hgω, hnew⟩
    · rename_i hne
      obtain ⟨g', h1, h2, h3⟩ := h.obj lv' t' ob' hob
      have hgg : g' ≠ g := by
        rintro rfl
        rw [hgo] at h2
        cases h2
        exact hne ⟨rfl, rfl⟩
      obtain ⟨k1, k2, k3⟩ := hs g' _ hgg (fun j e => by cases e) (fun _ _ e => by cases e) h2
      refine ⟨g', by rw [hβ]; exact h1, k3, h3.mono hle ⟨k1, k2⟩ fun j k hk => ?_⟩
      refine hs k _ (by rintro rfl; rw [hgo] at hk; cases hk) (fun j' e => ?_) (fun _ _ e => by cases e) hk
      cases e
      exact hne ⟨rfl, rfl⟩
  · rw [ob_setOb ho]
    split
    · exact ⟨_, rfl⟩
    · exact h.dom lv' t' g' (by rw [← hβ]; exact hg')

theorem loadVar_run {t : TypeId} (hz : szOf P t ≠ 0) {b o : Nat} {c : Nat → Value} (hc : ∀ j, j < szOf P t → w.cell? ⟨b, o + j, none⟩ = some (c j)) :
    ∃ x, (loadVar t ⟨b, o, none⟩).run P w = .ok x w ∧ x = if isAgg P t = true then .agg ((List.range (szOf P t)).map c).toArray else c 0 := by
  obtain ⟨i, d, h1, h2, h3, h4⟩ := szOf_ne hz
  unfold loadVar
  simp only [Sem.run_bind, run_isAgg' (P := P) (t := t) (by rw [h2]; rfl), Result.andThen_ok]
  by_cases ha : isAgg P t = true
  · have hl := run_loadCells_list (P := P) (w := w) ⟨b, o, none⟩ ((List.range (szOf P t)).map c) (fun j v hj => by
      rw [List.getElem?_map] at hj
      rcases Nat.lt_or_ge j (szOf P t) with h' | h'
      · rw [List.getElem?_range h', Option.map_some, Option.some.injEq] at hj
        subst hj
        rw [add_eq]
        exact hc j h'
      · rw [List.getElem?_eq_none (by simpa using h')] at hj; cases hj)
    rw [List.length_map, List.length_range] at hl
    simp only [ha, if_true, Sem.run_bind, run_sizeOf' hz, Result.andThen_ok, hl, Sem.run_pure]
    exact ⟨_, rfl, rfl⟩
  · have h0 : w.cell? ⟨b, o, none⟩ = some (c 0) := hc 0 (by omega)
    simp only [ha, Bool.false_eq_true, if_false, run_load, h0]
    exact ⟨_, rfl, rfl⟩
theorem pack_own {p : Nat → Pl} {l : List V} {c : Nat → Value} {ag : Bool} {x : Value} {n : Nat} (hn : 0 < n) (hl : l.length = n) (hT : ∀ j, j < n → OwnC G w (p j) (l.getD j .undef) (c j)) (hx : x = if ag = true then .agg ((List.range n).map c).toArray else c 0) : OwnV G w p (pack ag l) x := by
  subst hx
  cases ag
  · have := hT 0 hn
    simp only [pack, Bool.false_eq_true, if_false]
    cases l with
    | nil => simp at hl; omega
    | cons v l =>
      show OwnV G w p v (c 0)
      simp only [List.getD_cons_zero] at this
      cases v
      case agg m =>
        have h1 : Tr G.S G.β (.agg m) (c 0) := this
        exact OwnV.of_tr' h1
      all_goals exact this
  · simp only [pack, if_true]
    refine ⟨_, rfl, by simp [hl], fun i hi => ?_⟩
    have hi' : i < n := by omega
    have : ((List.range n).map c).toArray.getD i Go.undef = c i := by simp [Array.getD, hi']
    rw [this]
    exact hT i hi'
theorem OwnV.toS {p : Nat → Nat → Pl} {v : V} {x : Value} (h : OwnV G w (p 0) v x) (ht : ∀ l, v ≠ .tup l) : OwnS G w p v x := by
  cases v
  case tup l => exact absurd rfl (ht l)
  all_goals exact h
theorem getD_setL (l c : List V) (off j : Nat) (h : off + c.length ≤ l.length) : (setL l off c).getD j .undef = if off ≤ j ∧ j < off + c.length then c.getD (j - off) .undef else l.getD j .undef := by
  simp only [setL, List.getD_eq_getElem?_getD, List.append_assoc]
  by_cases h1 : j < off
  · rw [List.getElem?_append_left (by simp; omega), List.getElem?_take, if_pos h1, if_neg (by omega)]
  · rw [List.getElem?_append_right (by simp; omega)]
    simp only [List.length_take, Nat.min_eq_left (show off ≤ l.length by omega)]
    by_cases h2 : j - off < c.length
    · rw [List.getElem?_append_left h2, if_pos (by omega)]
    · rw [List.getElem?_append_right (by omega), if_neg (by omega), List.getElem?_drop]
      congr 2
      omega
theorem length_setL (l c : List V) (off : Nat) (h : off + c.length ≤ l.length) : (setL l off c).length = l.length := by
  simp [setL]; omega
def outF (lv u off n : Nat) : Pl → Pl
  | .cl l t j => if l = lv ∧ t = u ∧ off ≤ j ∧ j < off + n then .rs 0 (j - off) else .cl l t j
  | p => p
theorem pack_tup {ag : Bool} {l : List V} {n : Nat} (hl : l.length = n) (hn : 0 < n) (h : ∀ j m, j < n → l.getD j .undef ≠ .tup m) : ∀ m, pack ag l ≠ .tup m := by
  intro m
  cases ag
  · cases l with
    | nil => simp at hl; omega
    | cons v l => exact h 0 m hn
  · intro e; cases e
theorem OwnC.tup {p : Pl} {m : List V} {x : Value} (h : OwnC G w p (.tup m) x) : False := by cases h
theorem flat_agg_or (v : V) : (∃ l, v = .agg l) ∨ ((∀ l, v ≠ .agg l) ∧ v.flat = [v]) := by
  cases v
  case agg l => exact .inl ⟨l, rfl⟩
  all_goals exact .inr ⟨fun l e => (by cases e), rfl⟩
/-- the same, the world standing still -/
def OpOkS (P : Program) (o : Oper) (G : Gh) (s : St) (a : Act) (w : World) (v : V) (s1 : St) : Prop :=
  ∃ x G', (execOp a.eval o).run P w = .ok (.value x) w ∧ Rel G' s1 a w ∧ OwnS G' w Pl.rs v x ∧ Fr s.lv G w G' w
theorem OpOkS.tr (h : Rel G s a w) {v : V} {x : Value} (hr : (execOp a.eval o).run P w = .ok (.value x) w) (hT : Tr G.S G.β v x) : OpOkS P o G s a w v s :=
  ⟨x, G, hr, h, OwnS.of_tr' hT, Fr.refl _ _ _⟩
theorem op_loadS {x : Operand} {t : TypeId} {tk : Bool} {v : V} {s1 : St} (h : Rel G s a w) (hv : vLoad P s tk t (s.see P 0 x) = some (v, s1)) : OpOkS P ⟨d, .load t x, ty, pos, af, gd⟩ G s a w v s1 := by
  have h1 := h.see P 0 x
  unfold vLoad at hv
  generalize s.see P 0 x = u at hv h1
  have hrun : ∀ b o y w', a.eval x = .pointer (some ⟨b, o, none⟩) → (loadVar t ⟨b, o, none⟩).run P w = .ok y w' → (execOp a.eval ⟨d, .load t x, ty, pos, af, gd⟩).run P w = .ok (.value y) w' := by
    intro b o y w' hx hl
    simp only [execOp]
    refine run_val ?_
    simp only [Instr.loadAt, hx, Instr.sureAddr, Sem.run_bind, Sem.run_pure, Result.andThen_ok, hl]
  split at hv
  · rename_i lv u off
    obtain ⟨g, hg, hx⟩ := h1.ptr_inv
    split at hv
    · rename_i cs ho
      split at hv
      · rename_i hc
        obtain ⟨g', hg', hω, en, ety, hb, hl, hS, hT⟩ := h.obj lv u _ ho
        obtain rfl : g' = g := by rw [hg] at hg'; exact (Option.some.inj hg').symm
        obtain ⟨y, hy, hy'⟩ := loadVar_run (P := P) (w := w) hc.2 (b := g') (o := off) (c := fun j => en.getD (off + j) Go.undef) (fun j hj => by
          have : off + j < en.size := by omega
          simp [World.cell?, hb, Array.getD, this])
        split at hv
        · obtain ⟨rfl, rfl⟩ := Prod.mk.inj (Option.some.inj hv)
          have hlen : ((cs.drop off).take (szOf P t)).length = szOf P t := by simp; omega
          have hle : Le G (G.ren (outF lv u off (szOf P t))) := G.ren_le _
          have hown : OwnV (G.ren (outF lv u off (szOf P t))) w (Pl.rs 0) (pack (isAgg P t) ((cs.drop off).take (szOf P t))) y :=
            pack_own (by omega) hlen (fun j hj => by
              rw [getD_drop_take _ _ _ _ hj]
              exact (hT (off + j) (by omega)).ren _ (by simp only [outF]; rw [if_pos ⟨trivial, trivial, by omega, by omega⟩]; congr 1; omega)) hy'
          refine ⟨y, G.ren (outF lv u off (szOf P t)), hrun _ _ _ _ hx hy, ?_, OwnV.toS hown (pack_tup hlen (by omega) fun j m hj e => ?_), ren_fr fun p => ?_⟩
          · refine h.setOb ho hg hω hle rfl (fun k p hk hp _ hpk => ⟨rfl, fun _ => rfl, ?_⟩) h.imm (ren_lim h.lim) (by rw [ren_ω hω]; rfl) ?_
            · rw [ren_ω hpk]
              congr 1
              cases p with
              | cl l t' j =>
                simp only [outF]
                split
                · rename_i hh
                  exact absurd (by rw [hh.1, hh.2.1]) (hp j)
                · rfl
              | _ => rfl
            · have hlm : (((cs.drop off).take (szOf P t)).map V.viewC).length = szOf P t := by rw [List.length_map, hlen]
              refine ⟨en, ety, hb, by rw [length_setL _ _ _ (by rw [hlm]; omega)]; exact hl, hS, fun j hj => ?_⟩
              rw [length_setL _ _ _ (by rw [hlm]; omega)] at hj
              rw [getD_setL _ _ _ _ (by rw [hlm]; omega), hlm]
              split
              · rename_i hh
                rw [getD_viewC, getD_drop_take _ _ _ _ (by omega), show off + (j - off) = j by omega]
                exact OwnC.of_tr (hle.tr (hT j hj).view)
              · rename_i hh
                exact (hT j hj).ren _ (by simp only [outF]; rw [if_neg (fun e => hh ⟨e.2.2.1, e.2.2.2⟩)])
          · rw [getD_drop_take _ _ _ _ hj] at e
            have := hT (off + j) (by omega)
            rw [e] at this
            exact this.tup
          · cases p with
            | cl l t' j => exact .inr trivial
            | _ => exact .inl rfl
        · obtain ⟨rfl, rfl⟩ := Prod.mk.inj (Option.some.inj hv)
          refine OpOkS.tr h (hrun _ _ _ _ hx hy) (pack_tr (n := szOf P t) (by omega) (by simp; omega) (fun j hj => ?_) hy')
          rw [getD_viewC, getD_drop_take _ _ _ _ hj]
          exact (hT (off + j) (by omega)).view
      · cases hv
    · cases hv
  · rename_i l
    split at hv
    · rename_i hc
      obtain ⟨rfl, rfl⟩ := Prod.mk.inj (Option.some.inj hv)
      obtain ⟨b, o, c, hx, _, hS, hT⟩ := h1.imp_inv
      obtain ⟨y, hy, hy'⟩ := loadVar_run (P := P) (w := w) hc.2 (b := b) (o := o) (c := c) (fun j hj => h.imm _ _ _ (hS j (by omega)))
      refine OpOkS.tr h (hrun _ _ _ _ hx hy) (pack_tr (n := szOf P t) (by omega) (by simp; omega) (fun j hj => ?_) hy')
      have := hT j (by omega)
      simpa [List.getD_eq_getElem?_getD, List.getElem?_take, hj] using this
    · cases hv
  · rename_i lv u i sz
    obtain ⟨g, hg, hx⟩ := h1.eptr_inv
    split at hv
    · rename_i fz sz' l ho
      split at hv
      · rename_i hc
        obtain ⟨rfl, rfl, hz, hi⟩ := hc
        obtain ⟨rfl, rfl⟩ := Prod.mk.inj (Option.some.inj hv)
        obtain ⟨g', hg', hω, en, ety, hb, hl, hs, hT, _⟩ := h.obj lv u _ ho
        obtain rfl : g' = g := by rw [hg] at hg'; exact (Option.some.inj hg').symm
        have hfl : (l.getD i .undef).flat.length = szOf P t := by
          refine (hs _ ?_).1
          rw [List.getD_eq_getElem?_getD, List.getElem?_eq_getElem hi]
          exact List.getElem_mem hi
        have hle : i * szOf P t + szOf P t ≤ en.size := by
          refine Nat.le_trans ?_ hl
          calc i * szOf P t + szOf P t = (i + 1) * szOf P t := by rw [Nat.succ_mul]
            _ ≤ l.length * szOf P t := Nat.mul_le_mul_right _ hi
        obtain ⟨y, hy, hy'⟩ := loadVar_run (P := P) (w := w) hz (b := g') (o := i * szOf P t) (c := fun j => en.getD (i * szOf P t + j) Go.undef) (fun j hj => by
          have : i * szOf P t + j < en.size := by omega
          simp [World.cell?, hb, Array.getD, this])
        exact OpOkS.tr h (hrun _ _ _ _ hx hy) (pack_tr (n := szOf P t) (by omega) hfl (fun j hj => hT i j hi hj) hy')
      · cases hv
    · cases hv
  · cases hv
theorem op_load {x : Operand} {t : TypeId} {tk : Bool} {v : V} {s1 : St} (h : Rel G s a w) (hv : vLoad P s tk t (s.see P 0 x) = some (v, s1)) : OpOk P ⟨d, .load t x, ty, pos, af, gd⟩ G s a w v s1 :=
  let ⟨x, G', h1, h2⟩ := op_loadS h hv
  ⟨x, w, G', h1, h2⟩
end Go.Ev
namespace Go.Ev
open Go
set_option linter.unusedVariables false
set_option linter.unusedSimpArgs false
variable {P : Program} {G : Gh} {s : St} {a : Act} {w : World} {o : Oper}
variable {d : Option Nat} {ty : TypeId} {pos : String} {af : Array Edge} {gd : Option (Nat × Bool)}

theorem imm_lt (h : Rel G s a w) {g j : Nat} {c : Value} (hS : G.S g j = some c) : g < w.heap.size := by
  have := h.imm _ _ _ hS
  unfold World.cell? at this
  split at this
  · rename_i hb
    exact (Array.getElem?_eq_some_iff.1 hb).1
  · cases this
theorem ω_new (h : Rel G s a w) : G.ω w.heap.size = none := by
  cases hω : G.ω w.heap.size with
  | none => rfl
  | some p => exact absurd (h.lim _ _ hω) (Nat.lt_irrefl _)
theorem S_new (h : Rel G s a w) (j : Nat) : G.S w.heap.size j = none := by
  cases hS : G.S w.heap.size j with
  | none => rfl
  | some p => exact absurd (imm_lt h hS) (Nat.lt_irrefl _)

/-- a new row: its first n cells never change, the rest is the value's own -/
def Gh.row (G : Gh) (g n : Nat) (cs : Array Value) (p : Pl) : Gh where
  S := fun k j => if k = g then (if j < n then cs[j]? else none) else G.S k j
  β := G.β
  ω := upd G.ω g (some p)
theorem Rel.allocRow (h : Rel G s a w) (n : Nat) (cs : Array Value) (e : TypeId) (p : Pl) :
    Rel (G.row w.heap.size n cs p) s a (w.alloc (.cells cs e)) ∧ Le G (G.row w.heap.size n cs p) ∧ Fr s.lv G w (G.row w.heap.size n cs p) (w.alloc (.cells cs e)) ∧
    (∀ k q, G.ω k = some q → (w.alloc (.cells cs e)).heap[k]? = w.heap[k]? ∧ (∀ j, (G.row w.heap.size n cs p).S k j = G.S k j) ∧ (G.row w.heap.size n cs p).ω k = some q) := by
  have hle : Le G (G.row w.heap.size n cs p) := ⟨fun g j c hc => by
    show (if g = w.heap.size then _ else _) = _
    rw [if_neg (Nat.ne_of_lt (imm_lt h hc))]; exact hc, fun _ _ _ hb => hb⟩
  have hs : ∀ k q, G.ω k = some q → (w.alloc (.cells cs e)).heap[k]? = w.heap[k]? ∧ (∀ j, (G.row w.heap.size n cs p).S k j = G.S k j) ∧ (G.row w.heap.size n cs p).ω k = some q := by
    intro k q hk
    have hlt := h.lim _ _ hk
    refine ⟨heap_alloc_old w _ hlt, fun j => ?_, ?_⟩
    · show (if k = w.heap.size then _ else _) = _
      rw [if_neg (Nat.ne_of_lt hlt)]
    · show (if k = w.heap.size then _ else _) = _
      rw [if_neg (Nat.ne_of_lt hlt)]; exact hk
  refine ⟨h.grow hle rfl (fun g p _ => hs g p) (fun g j c hc => ?_) (fun g q hq => ?_), hle, ⟨rfl, rfl, rfl, by simp, fun g hg hm => ⟨heap_alloc_old w _ hg, ?_, fun j => ?_⟩, hle.S, fun _ _ _ => rfl⟩, hs⟩
  · have hc' : (if g = w.heap.size then (if j < n then cs[j]? else none) else G.S g j) = some c := hc
    split at hc'
    · rename_i hg
      subst hg
      split at hc'
      · simp only [World.cell?, heap_alloc_new]; exact hc'
      · cases hc'
    · rw [World.cell?_alloc_lt w _ _ (imm_lt h hc')]
      exact h.imm _ _ _ hc'
  · have hq' : (if g = w.heap.size then some p else G.ω g) = some q := hq
    split at hq'
    · rename_i hg; subst hg; simp
    · have := h.lim _ _ hq'; simp; omega
  · show (if g = w.heap.size then _ else _) = _
    rw [if_neg (Nat.ne_of_lt hg)]
  · show (if g = w.heap.size then _ else _) = _
    rw [if_neg (Nat.ne_of_lt hg)]

/-- a list of elements laid out, cell by cell -/
def Laid (G : Gh) (sz : Nat) (l : List V) (cs : Array Value) : Prop := l.length * sz ≤ cs.size ∧ (∀ x ∈ l, x.flat.length = sz ∧ x.flat.all pureC = true) ∧ ∀ i j, i < l.length → j < sz → Tr G.S G.β ((l.getD i .undef).flat.getD j .undef) (cs.getD (i * sz + j) Go.undef)
theorem Laid.mono {G' : Gh} {sz : Nat} {l : List V} {cs : Array Value} (h : Laid G sz l cs) (hle : Le G G') : Laid G' sz l cs := ⟨h.1, h.2.1, fun i j hi hj => hle.tr (h.2.2 i j hi hj)⟩
theorem cell_lt {i j sz n : Nat} (hi : i < n) (hj : j < sz) : i * sz + j < n * sz := by
  calc i * sz + j < i * sz + sz := by omega
    _ = (i + 1) * sz := by rw [Nat.succ_mul]
    _ ≤ n * sz := Nat.mul_le_mul_right _ hi
/-- a new row of elements, as a value of its own -/
theorem Rel.newRow (h : Rel G s a w) {sz cap : Nat} {l : List V} {cs : Array Value} (hl : Laid G sz l cs) (hcap : cs.size = cap * sz) (hc : l.length ≤ cap) (e : TypeId) :
    ∃ G', Rel G' s a (w.alloc (.cells cs e)) ∧ OwnS G' (w.alloc (.cells cs e)) Pl.rs (.slc true sz l) (.slice (some ⟨w.heap.size, 0, none⟩) l.length cap) ∧ Fr s.lv G w G' (w.alloc (.cells cs e)) := by
  obtain ⟨h1, h2, h3, _⟩ := h.allocRow (l.length * sz) cs e (.rs 0 0)
  refine ⟨_, h1, ⟨Tr.slc sz l _ 0 cap (fun i j => cs.getD (i * sz + j) Go.undef) hc hl.2.1 (fun i j hi hj => ?_) (fun i j hi hj => h2.tr (hl.2.2 i j hi hj)), _, cap, rfl, .inr ⟨w.heap.size, cs, e, rfl, ?_, heap_alloc_new _ _, hcap, fun j hj => ?_⟩⟩, h3⟩
  · show (if w.heap.size = w.heap.size then _ else _) = _
    have h5 := cell_lt hi hj
    have h6 : i * sz + j < cs.size := Nat.lt_of_lt_of_le h5 hl.1
    rw [if_pos rfl, Nat.zero_add, if_pos h5, Array.getElem?_eq_getElem h6, getD_array_of h6]
  · show (if w.heap.size = w.heap.size then _ else _) = _
    rw [if_pos rfl]
  · show (if w.heap.size = w.heap.size then _ else _) = _
    rw [if_pos rfl, if_neg (by omega)]

/-- a new object -/
def Gh.obj (G : Gh) (lv t g : Nat) : Gh where
  S := G.S
  β := fun l u => if l = lv ∧ u = t then some g else G.β l u
  ω := upd G.ω g (some (.ob lv t))
theorem β_none (h : Rel G s a w) {lv t : Nat} (ho : s.ob lv t = none) : G.β lv t = none := by
  cases hb : G.β lv t with
  | none => rfl
  | some g => obtain ⟨ob, hob⟩ := h.dom _ _ _ hb; rw [ho] at hob; cases hob
theorem ob_b (t : Nat) : s.ob s.lv t = s.b t := by simp [St.ob, obIn, St.lv]
theorem ob_upd (dd : Nat) (ob : Ob) (lv t : Nat) : ({ s with b := upd s.b dd (some ob) } : St).ob lv t = if lv = s.lv ∧ t = dd then some ob else s.ob lv t := by
  simp only [St.ob, obIn, St.lv]
  by_cases h1 : lv = s.o.length
  · simp only [h1, if_true, true_and, upd]
  · simp [h1]
theorem Rel.allocOb (h : Rel G s a w) {dd : Nat} (hd : s.b dd = none) (o : Obj) (ob : Ob) (hnew : ∀ w', w' = w.alloc o → Le G (G.obj s.lv dd w.heap.size) → (∀ k q, G.ω k = some q → w'.heap[k]? = w.heap[k]? ∧ (∀ j, (G.obj s.lv dd w.heap.size).S k j = G.S k j) ∧ (G.obj s.lv dd w.heap.size).ω k = some q) →
      (∀ j, (G.obj s.lv dd w.heap.size).S w.heap.size j = none) → ObR (G.obj s.lv dd w.heap.size) w' s.lv dd w.heap.size ob) :
    Rel (G.obj s.lv dd w.heap.size) { s with b := upd s.b dd (some ob) } a (w.alloc o) ∧ Fr s.lv G w (G.obj s.lv dd w.heap.size) (w.alloc o) ∧ (G.obj s.lv dd w.heap.size).β s.lv dd = some w.heap.size := by
  have hβ := β_none h (lv := s.lv) (t := dd) (by rw [ob_b]; exact hd)
  have hle : Le G (G.obj s.lv dd w.heap.size) := ⟨fun _ _ _ hc => hc, fun l u g hg => by
    show (if l = s.lv ∧ u = dd then _ else _) = _
    rw [if_neg (by rintro ⟨rfl, rfl⟩; rw [hβ] at hg; cases hg)]; exact hg⟩
  have hs : ∀ k q, G.ω k = some q → (w.alloc o).heap[k]? = w.heap[k]? ∧ (∀ j, (G.obj s.lv dd w.heap.size).S k j = G.S k j) ∧ (G.obj s.lv dd w.heap.size).ω k = some q := by
    intro k q hk
    have hlt := h.lim _ _ hk
    refine ⟨heap_alloc_old w _ hlt, fun j => rfl, ?_⟩
    show (if k = w.heap.size then _ else _) = _
    rw [if_neg (Nat.ne_of_lt hlt)]; exact hk
  refine ⟨⟨h.size, h.defers, fun t => (h.slot t).mono hle fun c j k hk => hs k _ hk, fun lv t ob' hob => ?_, fun lv t g hg => ?_, fun g j c hc => ?_, fun g q hq => ?_⟩, ⟨rfl, rfl, rfl, by simp, fun g hg hm => ⟨heap_alloc_old w _ hg, ?_, fun j => rfl⟩, fun _ _ _ hc => hc, fun l t hl => ?_⟩, ?_⟩
  · rw [ob_upd] at hob
    split at hob
    · rename_i he
      obtain ⟨rfl, rfl⟩ := he
      obtain rfl := Option.some.inj hob
      refine ⟨w.heap.size, ?_, ?_, hnew _ rfl hle hs (fun j => S_new h j)⟩
      · show (if _ ∧ _ then _ else _) = _; rw [if_pos ⟨rfl, rfl⟩]
      · show (if _ = _ then _ else _) = _; rw [if_pos rfl]
    · obtain ⟨g, h1, h2, h3⟩ := h.obj lv t ob' hob
      obtain ⟨k1, k2, k3⟩ := hs g _ h2
      exact ⟨g, hle.β _ _ _ h1, k3, h3.mono hle ⟨k1, k2⟩ fun j k hk => hs k _ hk⟩
  · rw [ob_upd]
    split
    · exact ⟨_, rfl⟩
    · rename_i hne
      have hg' : (if lv = s.lv ∧ t = dd then some w.heap.size else G.β lv t) = some g := hg
      rw [if_neg hne] at hg'
      exact h.dom _ _ _ hg'
  · have hlt := imm_lt h hc
    rw [World.cell?_alloc_lt w _ _ hlt]
    exact h.imm _ _ _ hc
  · have hq' : (if g = w.heap.size then some (Pl.ob s.lv dd) else G.ω g) = some q := hq
    split at hq'
    · rename_i hg; subst hg; simp
    · have := h.lim _ _ hq'; simp; omega
  · show (if g = w.heap.size then _ else _) = _
    rw [if_neg (Nat.ne_of_lt hg)]
  · show (if l = s.lv ∧ t = dd then _ else _) = _
    rw [if_neg (fun e => absurd e.1 (Nat.ne_of_lt hl))]
  · show (if _ ∧ _ then _ else _) = _
    rw [if_pos ⟨rfl, rfl⟩]

/-! zero values -/
theorem agree_tr {v : V} {x : Value} (h : agree v x = true) (p : Pl) {G : Gh} {w : World} : OwnC G w p v x := by
  unfold agree at h
  split at h
  · simp only [beq_iff_eq] at h; subst h; exact Tr.bool _
  · simp only [Bool.and_eq_true, beq_iff_eq] at h; obtain ⟨rfl, rfl⟩ := h; exact Tr.int _ _
  · simp only [Bool.and_eq_true, Array.isEmpty_iff] at h
    rename_i b c
    have : b = c := by cases b; cases c; simp only at h; rw [h.1, h.2]
    subst this
    exact Tr.str _
  · exact ⟨Tr.slc0 _ _ _, none, 0, rfl, .inl rfl⟩
  · exact Tr.nilp
  · exact Tr.nilfn
  · cases h
theorem agrees_spec : ∀ (l : List V) (m : List Value), agrees l m = true → l.length = m.length ∧ ∀ j, j < l.length → agree (l.getD j .undef) (m.getD j Go.undef) = true := by
  intro l
  induction l with
  | nil => intro m h; cases m <;> simp [agrees] at h ⊢
  | cons v l ih =>
    intro m h
    cases m with
    | nil => simp [agrees] at h
    | cons x m =>
      simp only [agrees, Bool.and_eq_true] at h
      obtain ⟨h1, h2⟩ := ih m h.2
      refine ⟨by simp [h1], fun j hj => ?_⟩
      cases j with
      | zero => exact h.1
      | succ j => exact h2 j (by simpa using hj)
theorem zero_spec {t : TypeId} {l : List V} (h : zero P t = some l) : ∃ z, (∀ w : World, (zeroValue t).run P w = .ok z w) ∧ l.length = z.cells.size ∧ (∀ j, j < l.length → agree (l.getD j .undef) (z.cells.getD j Go.undef) = true) ∧ (isAgg P t = true → ∃ cs, z = .agg cs) ∧ (isAgg P t = false → z.cells = #[z]) := by
  unfold zero at h
  cases hi : P.info? t with
  | none => simp [hi] at h
  | some i =>
    cases hz : i.zero with
    | none => simp [hi, hz] at h
    | some z =>
      simp only [hi, Option.bind_some, hz] at h
      split at h
      · rename_i ha
        rw [Bool.and_eq_true] at ha
        obtain ⟨ha, hb⟩ := ha
        obtain rfl := Option.some.inj h
        obtain ⟨h1, h2⟩ := agrees_spec _ _ ha
        refine ⟨z, fun w => ?_, by simpa using h1, fun j hj => ?_, fun h3 => ?_, fun h3 => ?_⟩
        · simp only [zeroValue, Sem.run_bind, typeInfo, run_program, Result.andThen_ok, hi, Sem.run_pure, hz]
        · have := h2 j hj
          simpa [List.getD_eq_getElem?_getD, Array.getD_eq_getD_getElem?] using this
        · rw [h3] at hb
          cases z <;> first | exact ⟨_, rfl⟩ | cases hb
        · rw [h3] at hb
          cases z <;> first | rfl | cases hb
      · cases h
theorem op_alloc {dd : Nat} {e : TypeId} {z : List V} (h : Rel G s a w) (hd : s.b dd = none) (hz : zero P e = some z) :
    OpOk P ⟨d, .alloc e, ty, pos, af, gd⟩ G s a w (.ptr s.lv dd 0) { s with b := upd s.b dd (some (.box z)) } := by
  obtain ⟨zv, h1, h2, h3, _⟩ := zero_spec hz
  obtain ⟨k1, k2, k3⟩ := h.allocOb hd (.cells zv.cells e) (.box z) (fun w' hw' hle hs hS => ⟨zv.cells, e, by rw [hw']; exact heap_alloc_new _ _, h2, hS, fun j hj => agree_tr (h3 j hj) _⟩)
  refine ⟨.pointer (some ⟨w.heap.size, 0, none⟩), _, _, ?_, k1, OwnS.of_tr' (Tr.ptr _ _ _ _ k3), k2⟩
  simp only [execOp]
  refine run_val ?_
  simp [Instr.alloc, h1, newVar, Go.newRow]
theorem op_makeMap {dd : Nat} {t : TypeId} (h : Rel G s a w) (hd : s.b dd = none) :
    OpOk P ⟨d, .makeMap t none, ty, pos, af, gd⟩ G s a w (.mp s.lv dd) { s with b := upd s.b dd (some (.map [])) } := by
  obtain ⟨k1, k2, k3⟩ := h.allocOb hd (.map #[] 0) (.map []) (fun w' hw' hle hs hS => ⟨#[], 0, by rw [hw']; exact heap_alloc_new _ _, rfl, hS, (fun x hx => by cases hx), fun j hj => by cases hj⟩)
  refine ⟨.map (some w.heap.size), _, _, ?_, k1, OwnS.of_tr' (Tr.mp _ _ _ k3), k2⟩
  simp only [execOp]
  refine run_val ?_
  simp [Instr.makeMap]
/-- an operand, all of it, handed over -/
theorem Rel.all (h : Rel G s a w) (P : Program) (ty : TypeId) (x : Operand) :
    ∃ G', Rel G' (s.drop x) a w ∧ OwnS G' w Pl.rs (s.all P ty x) (a.eval x) ∧ Fr s.lv G w G' w ∧ (∀ c j g, G.ω g = some (.rs c j) → G'.ω g = some (.rs c j)) ∧ G'.S = G.S ∧ G'.β = G.β := by
  cases x with
  | tmp i => exact h.take i
  | const v => exact ⟨G, h, rd_own (P := P) (s := s) Pl.rs ty (.const v) (fun i e => by cases e), Fr.refl _ _ _, fun _ _ _ e => e, rfl, rfl⟩
  | func f => exact ⟨G, h, rd_own (P := P) (s := s) Pl.rs ty (.func f) (fun i e => by cases e), Fr.refl _ _ _, fun _ _ _ e => e, rfl, rfl⟩
  | global g => exact ⟨G, h, rd_own (P := P) (s := s) Pl.rs ty (.global g) (fun i e => by cases e), Fr.refl _ _ _, fun _ _ _ e => e, rfl, rfl⟩
theorem cells_one {v : V} {x : Value} {S : Nat → Nat → Option Value} {β : Nat → Nat → Option Nat} (h : Tr S β v x) (hu : v ≠ .undef) (ha : ∀ l, v ≠ .agg l) : x.cells = #[x] ∧ x.oneCell' = true := by
  cases h <;> first | exact ⟨rfl, rfl⟩ | exact absurd rfl hu | exact absurd rfl (ha _)
theorem OwnC.one {p : Pl} {v : V} {x : Value} (h : OwnC G w p v x) (hv : cellOk v = true) : x.cells = #[x] ∧ x.oneCell' = true := by
  by_cases hq : ∃ sz l, v = .uq sz l
  · obtain ⟨sz, l, rfl⟩ := hq
    obtain ⟨a, cap, rfl, _⟩ := (h : OwnU G w p sz l x)
    exact ⟨rfl, rfl⟩
  have h1 := h.view
  refine cells_one h1 ?_ ?_
  · cases v <;> first | exact absurd ⟨_, _, rfl⟩ hq | (intro e; cases e; done) | cases hv
  · intro l; cases v <;> first | (intro e; cases e; done) | cases hv
theorem OwnV.cells {p : Nat → Pl} {v : V} {x : Value} (h : OwnV G w p v x) (hu : v ≠ .undef) (ht : ∀ l, v ≠ .tup l) : v.flat.length = x.cells.size ∧ ∀ j, j < v.flat.length → OwnC G w (p j) (v.flat.getD j .undef) (x.cells.getD j Go.undef) := by
  rcases flat_agg_or v with ⟨l, rfl⟩ | ⟨hna, hf⟩
  · obtain ⟨cs, rfl, hl, hc⟩ := h
    exact ⟨hl, hc⟩
  · have h1 : OwnC G w (p 0) v x := by
      cases v
      case agg l => exact absurd rfl (hna l)
      all_goals exact h
    have h2 : x.cells = #[x] := by
      by_cases hq : ∃ sz l, v = .uq sz l
      · obtain ⟨sz, l, rfl⟩ := hq
        obtain ⟨a, cap, rfl, _⟩ := (h1 : OwnU G w (p 0) sz l x)
        rfl
      refine (cells_one h1.view ?_ ?_).1
      · cases v <;> first | exact absurd ⟨_, _, rfl⟩ hq | (intro e; cases e; done) | exact absurd rfl hu
      · intro l e
        cases v
        case agg m => exact hna m rfl
        all_goals cases e
    rw [hf, h2]
    refine ⟨rfl, fun j hj => ?_⟩
    obtain rfl : j = 0 := by simpa using hj
    exact h1
theorem OwnS.toV {p : Nat → Nat → Pl} {v : V} {x : Value} (h : OwnS G w p v x) (ht : ∀ l, v ≠ .tup l) : OwnV G w (p 0) v x := by
  cases v
  case tup l => exact absurd rfl (ht l)
  all_goals exact h
def boxF (lv d off : Nat) : Pl → Pl
  | .rs 0 j => .cl lv d (off + j)
  | p => p
theorem op_box {dd : Nat} {e : TypeId} {x : Operand} {v : V} (h : Rel G s a w) (hd : s.b dd = none) (hv : s.all P e x = v) (hu : v ≠ .undef) (ht : ∀ l, v ≠ .tup l) :
    OpOk P ⟨d, .box e x, ty, pos, af, gd⟩ G s a w (.ptr s.lv dd 0) { s.drop x with b := upd s.b dd (some (.box v.flat)) } := by
  obtain ⟨G1, h1, h2, h3, _, _, _⟩ := h.all P e x
  rw [hv] at h2
  have hlv : (s.drop x).lv = s.lv := by cases x <;> rfl
  have hb : (s.drop x).b = s.b := by cases x <;> rfl
  obtain ⟨hc1, hc2⟩ := (h2.toV ht).cells hu ht
  -- what comes with the value is the variable's now
  have h4 : Rel (G1.ren (boxF s.lv dd 0)) (s.drop x) a w := by
    refine ⟨h1.size, h1.defers, fun t => (h1.slot t).ren _ fun c j => rfl, fun lv t ob hob => ?_, h1.dom, h1.imm, ren_lim h1.lim⟩
    obtain ⟨g, k1, k2, k3⟩ := h1.obj lv t ob hob
    exact ⟨g, k1, by rw [ren_ω k2]; rfl, k3.ren _ fun j => rfl⟩
  have h5 : Fr s.lv G w (G1.ren (boxF s.lv dd 0)) w := h3.trans (ren_fr fun p => by
    cases p with
    | rs c j => exact .inr trivial
    | _ => exact .inl rfl)
  obtain ⟨k1, k2, k3⟩ := h4.allocOb (dd := dd) (by rw [hb]; exact hd) (.cells (a.eval x).cells e) (.box v.flat) (fun w' hw' hle hs hS => ⟨(a.eval x).cells, e, by rw [hw']; exact heap_alloc_new _ _, hc1, hS, fun j hj => by
    refine ((hc2 j hj).ren (boxF s.lv dd 0) (p' := .cl s.lv dd j) (by simp [boxF])).mono hle fun g hg => ?_
    obtain ⟨e1, e2, e3⟩ := hs g _ hg
    exact ⟨e1, e2, by rw [hlv]; rw [hlv] at e3; exact e3⟩⟩)
  rw [hlv] at k1 k2 k3
  refine ⟨.pointer (some ⟨w.heap.size, 0, none⟩), _, _, ?_, by rw [hb] at k1; exact k1, OwnS.of_tr' (Tr.ptr _ _ _ _ k3), h5.trans k2⟩
  simp only [execOp]
  refine run_val ?_
  simp [Instr.box, newVar, Go.newRow]
end Go.Ev
