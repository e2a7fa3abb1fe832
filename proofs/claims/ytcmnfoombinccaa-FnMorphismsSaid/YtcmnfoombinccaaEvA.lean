/- A pure reading of the machine's programs: values as trees, lists that grow, variables in memory by their place; what a function computes by it. No statement of the seat is proved here. -/
import Derived.Calls
import Derived.Attr
import Derived.KernelRfl
set_option linter.unusedVariables false
set_option linter.unusedSimpArgs false
namespace Go.Ev
open Go
set_option linter.unusedVariables false

inductive V where
  | undef
  | bool (b : Bool)
  | int (k : IntKind) (n : Int)
  | str (s : ByteArray)
  | slc (own : Bool) (sz : Nat) (l : List V)
  | uq (sz : Nat) (l : List V)
  | nw (l : List V)
  | agg (l : List V)
  | tup (l : List V)
  | ptr (lv t off : Nat)
  | imp (l : List V)
  | eptr (lv t i sz : Nat)
  | aref (lv t n : Nat)
  | oref (lv t n : Nat)
  | bref (lv t n : Nat)
  | mp (lv t : Nat)
  | fn (f : Nat) (caps : List V)
  | nilp
  | nilfn
  deriving Inhabited

inductive Ob where
  | box (cells : List V)
  | arr (fz : Bool) (sz : Nat) (l : List V)
  | map (es : List (V × V))
  | aru (sz : Nat) (l : List V)
  | dir (sz : Nat) (l : List V)

/-- tmps, the frame's objects, the callers' objects, the results' places, the function, the tmps' number -/
structure St where
  t : Nat → V
  b : Nat → Option Ob
  o : List (Nat → Option Ob)
  r : Array ResultVar
  f : Nat
  n : Nat

structure LoopHint where
  blk : Nat
  keep : List Nat
  objs : List Nat

structure Hint where
  take : List Nat
  make : List Nat
  loops : List LoopHint
  deep : List Nat := []
  orders : List (Nat × List Nat) := []
  uniq : List Nat := []
  frz : List Nat := []
  ro : List Nat := []
  arrs : List Nat := []
  own : List Nat := []
  brw : List Nat := []
  lend : List Nat := []

structure Env where
  P : Program
  H : Nat → Hint
  orc : Nat → List V → Option V

def upd {α : Type} (f : Nat → α) (d : Nat) (v : α) : Nat → α := fun t => if t = d then v else f t
theorem upd_get {α : Type} (f : Nat → α) (d t : Nat) (v : α) : upd f d v t = if t = d then v else f t := rfl
def e0 : Nat → V := fun _ => .undef
def n0 : Nat → Option Ob := fun _ => none
theorem e0_get (t : Nat) : e0 t = .undef := rfl
theorem n0_get (t : Nat) : n0 t = none := rfl

def St.lv (s : St) : Nat := s.o.length
def obIn (t : Nat) : Nat → List (Nat → Option Ob) → Option Ob
  | _, [] => none
  | lv, f :: o => if lv = o.length then f t else obIn t lv o
def setIn (t : Nat) (ob : Ob) : Nat → List (Nat → Option Ob) → List (Nat → Option Ob)
  | _, [] => []
  | lv, f :: o => if lv = o.length then upd f t (some ob) :: o else f :: setIn t ob lv o
def St.ob (s : St) (lv t : Nat) : Option Ob := obIn t lv (s.b :: s.o)
def St.setOb (s : St) (lv t : Nat) (ob : Ob) : St :=
  if lv = s.o.length then { s with b := upd s.b t (some ob) } else { s with o := setIn t ob lv s.o }

def V.flat : V → List V
  | .agg l => l
  | v => [v]
def V.viewC : V → V
  | .slc _ sz l => .slc false sz l
  | .uq _ _ => .undef
  | .nw _ => .undef
  | v => v
def V.view : V → V
  | .slc _ sz l => .slc false sz l
  | .uq _ _ => .undef
  | .nw _ => .undef
  | .agg l => .agg (l.map V.viewC)
  | .tup l => .undef
  | v => v
/-- what is owned, written no more, all the way down -/
def V.ice : V → V
  | .uq sz l => .slc false sz (l.attach.map fun x => V.ice x.1)
  | .agg l => .agg (l.attach.map fun x => V.ice x.1)
  | .undef => .undef
  | .bool b => .bool b
  | .int k n => .int k n
  | .str s => .str s
  | .slc o sz l => .slc o sz l
  | .nw l => .nw l
  | .tup l => .tup l
  | .ptr a b c => .ptr a b c
  | .imp l => .imp l
  | .eptr a b c d => .eptr a b c d
  | .aref a b c => .aref a b c
  | .oref a b c => .oref a b c
  | .bref a b c => .bref a b c
  | .mp a b => .mp a b
  | .fn f c => .fn f c
  | .nilp => .nilp
  | .nilfn => .nilfn
  termination_by v => SizeOf.sizeOf v
  decreasing_by
  · have := List.sizeOf_lt_of_mem x.2; simp; omega
  · have := List.sizeOf_lt_of_mem x.2; simp; omega
theorem ice_uq (sz : Nat) (l : List V) : (V.uq sz l).ice = .slc false sz (l.map V.ice) := by rw [V.ice, List.attach_map_val (f := V.ice)]
theorem ice_agg (l : List V) : (V.agg l).ice = .agg (l.map V.ice) := by rw [V.ice, List.attach_map_val (f := V.ice)]
/-- a list that nobody else sees is one that is written no more -/
def V.setC : V → V
  | .uq sz l => .slc true sz (l.map V.ice)
  | v => v
def V.settle : V → V
  | .uq sz l => .slc true sz (l.map V.ice)
  | .agg l => .agg (l.map V.setC)
  | v => v
def setl (b : Bool) (v : V) : V := if b then v.settle else v
def pack (agg : Bool) (l : List V) : V := if agg then .agg l else l.headD .undef

/-- no reference into what may change -/
def pureC : V → Bool
  | .bool _ | .int .. | .str _ | .slc false _ _ | .nilp | .nilfn => true
  | .fn _ [] => true
  | _ => false
theorem pureC_uq0 (sz : Nat) (l : List V) : pureC (.uq sz l) = false := by simp [pureC]
theorem pureC_slc0 (sz : Nat) (l : List V) : pureC (.slc false sz l) = true := by simp [pureC]
/-- what may lie in what is owned -/
def cellU : V → Bool
  | .uq _ _ => true
  | v => pureC v
/-- what may lie in a row of references -/
def cellD : V → Bool
  | .aref .. => true
  | v => pureC v
def V.handC : V → V
  | .uq sz l => .uq sz l
  | v => v.viewC
/-- handed over: what is owned deep as it is, of the rest a view -/
def V.hand : V → V
  | .uq sz l => .uq sz l
  | .agg l => .agg (l.map V.handC)
  | v => v.view
/-- reads nothing that lies in memory but what it owns -/
def V.free : V → Bool
  | .uq _ l => l.attach.all fun x => V.free x.1
  | .agg l => l.attach.all fun x => V.free x.1
  | .tup l => l.attach.all fun x => V.free x.1
  | .slc false _ [] => true
  | .bool _ => true
  | .int _ _ => true
  | .str _ => true
  | .nilp => true
  | .nilfn => true
  | _ => false
  termination_by v => SizeOf.sizeOf v
  decreasing_by
  · have := List.sizeOf_lt_of_mem x.2; simp; omega
  · have := List.sizeOf_lt_of_mem x.2; simp; omega
  · have := List.sizeOf_lt_of_mem x.2; simp; omega
/-- what may be handed back: pure, or a list that nobody else sees -/
def V.outC : V → Bool
  | .uq _ _ => true
  | v => pureC v.viewC
def cellOk : V → Bool
  | .undef | .agg _ | .tup _ | .nw _ => false
  | _ => true
/-- names nothing above a level -/
def lowV (l : Nat) : V → Bool
  | .ptr lv _ _ | .eptr lv _ _ _ | .aref lv _ _ | .oref lv _ _ | .bref lv _ _ | .mp lv _ => decide (lv ≤ l)
  | .fn _ caps => caps.all fun c => match c with
    | .ptr lv _ _ => decide (lv ≤ l)
    | c => pureC c
  | .agg _ | .tup _ => false
  | _ => true
/-- a value read as a tree: what may lie in what never changes -/
def tree (s : St) : V → Option V
  | .aref lv t n => match s.ob lv t with
    | some (.arr true sz l) => if l.length = n then some (.slc false sz l) else none
    | _ => none
  | .agg l => if (l.map V.viewC).all pureC then some (.agg (l.map V.viewC)) else none
  | v => if pureC v.viewC then some v.viewC else none
/-- a row that is read as a tree is written no more -/
def St.frz (s : St) : V → St
  | .aref lv t _ => match s.ob lv t with
    | some (.arr false sz l) => s.setOb lv t (.arr true sz l)
    | _ => s
  | _ => s

section
variable (P : Program)
def isAgg (ty : TypeId) : Bool := match P.underlying ty with
  | some (.struct _) | some (.array _ _) => true
  | _ => false
def isSl (ty : TypeId) : Bool := match P.underlying ty with
  | some (.slice _) => true
  | _ => false
def isStr (ty : TypeId) : Bool := match P.underlying ty with
  | some .string => true
  | _ => false
/-- a type's cells; 0: nothing is said -/
def szOf (ty : TypeId) : Nat := match P.info? ty, P.underlying ty with
  | some i, some _ => i.size
  | _, _ => 0
def elemOf (ty : TypeId) : TypeId := match P.underlying ty with
  | some (.slice e) => e
  | some (.array _ e) => e
  | _ => 0
def elemSz (ty : TypeId) : Nat := szOf P (elemOf P ty)
def zeroT : Nat → TypeId → List V
  | 0, _ => [.undef]
  | n + 1, ty => match P.underlying ty with
    | some .bool => [.bool false]
    | some (.int k) => [.int k 0]
    | some .string => [.str ⟨#[]⟩]
    | some (.slice e) => [.slc true (szOf P e) []]
    | some (.pointer _) => [.nilp]
    | some (.func ..) => [.nilfn]
    | some (.struct fs) => (fs.toList.map fun f => zeroT n f.type).flatten
    | some (.array k e) => (List.replicate k (zeroT n e)).flatten
    | _ => [.undef]
def agree : V → Value → Bool
  | .bool a, .bool b => a == b
  | .int k a, .int k' b => k == k' && a == b
  | .str a, .string b => a.data.isEmpty && b.data.isEmpty
  | .slc true _ [], .slice none 0 0 => true
  | .nilp, .pointer none => true
  | .nilfn, .nilFunc => true
  | _, _ => false
def agrees : List V → List Value → Bool
  | [], [] => true
  | a :: l, b :: m => agree a b && agrees l m
  | _, _ => false
def zShape (ag : Bool) : Value → Bool
  | .agg _ => ag
  | .tuple _ => false
  | _ => !ag
def zero (ty : TypeId) : Option (List V) := match (P.info? ty).bind (·.zero) with
  | some z => if agrees (zeroT P 9 ty) z.cells.toList && zShape (isAgg P ty) z then some (zeroT P 9 ty) else none
  | none => none
def dflt (ty : TypeId) : V := (pack (isAgg P (elemOf P ty)) ((zero P (elemOf P ty)).getD [])).view
def cst (ty : TypeId) : Value → V
  | .bool b => .bool b
  | .int k n => .int k n
  | .string s => .str s
  | .slice none 0 0 => .slc true (elemSz P ty) []
  | .pointer none => .nilp
  | .nilFunc => .nilfn
  | _ => .undef
def rd (t : Nat → V) (ty : TypeId) : Operand → V
  | .tmp i => t i
  | .const v => cst P ty v
  | .func f => .fn f []
  | .global _ => .undef
end

/-! arithmetic -/
def arith (op : BinOp) (k : IntKind) (a b : Int) : Option V :=
  match op with
  | .add => some (.int k (k.wrap (a + b)))
  | .sub => some (.int k (k.wrap (a - b)))
  | .mul => some (.int k (k.wrap (a * b)))
  | .quo => if b = 0 then none else some (.int k (k.wrap (a.tdiv b)))
  | .rem => if b = 0 then none else some (.int k (a.tmod b))
  | .and => some (.int k (k.wrap ((BitVec.ofInt k.bits a &&& BitVec.ofInt k.bits b).toNat : Int)))
  | .or => some (.int k (k.wrap ((BitVec.ofInt k.bits a ||| BitVec.ofInt k.bits b).toNat : Int)))
  | .xor => some (.int k (k.wrap ((BitVec.ofInt k.bits a ^^^ BitVec.ofInt k.bits b).toNat : Int)))
  | .eql => some (.bool (a == b))
  | .neq => some (.bool (a != b))
  | .lss => some (.bool (decide (a < b)))
  | .leq => some (.bool (decide (a ≤ b)))
  | .gtr => some (.bool (decide (a > b)))
  | .geq => some (.bool (decide (a ≥ b)))
  | _ => none
def shiftV (op : BinOp) (k : IntKind) (a b : Int) : Option V :=
  if b < 0 then none else match op with
  | .shl => some (.int k (k.wrap (a * 2 ^ (min b.toNat k.bits))))
  | .shr => some (.int k (a.fdiv (2 ^ (min b.toNat k.bits))))
  | _ => none
def strOp (op : BinOp) (a b : ByteArray) : Option V :=
  match op with
  | .add => if ((a.size + b.size : Nat) : Int) > 9223372036854775807 then none else some (.str (a ++ b))
  | .eql => some (.bool (a.toList == b.toList))
  | .neq => some (.bool (!(a.toList == b.toList)))
  | .lss => some (.bool (Op.bytesLess a.toList b.toList))
  | .geq => some (.bool (!Op.bytesLess a.toList b.toList))
  | _ => none
/-- equality, at a type of numbers, truths and strings alone -/
def sameT : TypeDesc → V → V → Option Bool
  | .int _, .int k a, .int k' b => if k = k' then some (a == b) else none
  | .bool, .bool a, .bool b => some (a == b)
  | .string, .str a, .str b => some (a.toList == b.toList)
  | _, _, _ => none
def sameF (P : Program) : Nat → List Field → List V → List V → Option Bool
  | _, [], [], [] => some true
  | n, f :: fs, a :: l, b :: m => if f.offset = n ∧ (f.name == "_") = false then match P.underlying f.type with
    | some td => match sameT td a b, sameF P (n + 1) fs l m with
      | some x, some y => some (x && y)
      | _, _ => none
    | none => none
    else none
  | _, _, _, _ => none
def sameA (td : TypeDesc) : List V → List V → Option Bool
  | [], [] => some true
  | a :: l, b :: m => match sameT td a b, sameA td l m with
    | some x, some y => some (x && y)
    | _, _ => none
  | _, _ => none
def eqV (P : Program) (t : TypeId) (x y : V) : Option Bool := match P.underlying t with
  | some (.struct fs) => if P.stoodInHeld t = false then match x, y with
    | .agg l, .agg m => sameF P 0 fs.toList l m
    | _, _ => none
    else none
  | some (.array n e) => match x, y with
    | .agg l, .agg m => if l.length = n ∧ szOf P e = 1 then match P.underlying e with
      | some td => sameA td l m
      | none => none
      else none
    | _, _ => none
  | some td => sameT td x y
  | none => none
def binV (P : Program) (t : TypeId) (op : BinOp) (x y : V) : Option V :=
  match x, y with
  | .int k a, .int k' b => match op with
    | .shl | .shr => shiftV op k a b
    | _ => if k = k' then arith op k a b else none
  | .str a, .str b => strOp op a b
  | .bool a, .bool b => match op with
    | .eql => (eqV P t (.bool a) (.bool b)).map .bool
    | .neq => (eqV P t (.bool a) (.bool b)).map fun x => .bool (!x)
    | _ => none
  | .agg a, .agg b => if P.eqGuardType P.depth t = false then match op with
    | .eql => (eqV P t (.agg a) (.agg b)).map .bool
    | .neq => (eqV P t (.agg a) (.agg b)).map fun x => .bool (!x)
    | _ => none
    else none
  | _, _ => none
/-- is it the nil of the lists -/
def isNilc : Operand → Bool
  | .const (.slice none 0 0) => true
  | _ => false
/-- a list against nil: told of those that surely are none -/
def nilCmp (P : Program) (op : BinOp) (ty : TypeId) : V → Option V
  | .slc _ _ (_ :: _) | .aref .. => if isSl P ty then match op with
    | .eql => some (.bool false)
    | .neq => some (.bool true)
    | _ => none
    else none
  | _ => none
def V.ite (c : Bool) : V → V → V
  | .bool a, .bool b => .bool (if c then a else b)
  | .int k a, .int k' b => if k = k' then .int k (if c then a else b) else .undef
  | .str a, .str b => .str (if c then a else b)
  | x, y => if c then x else y

/-! the steps -/
inductive It where
  | code (c : Code)
  | ops (l : List Oper) (all : Array Oper)
  | blk (id : Nat)
  | lp (c : Code)

/-- the items behind a block's end -/
def outOf (id : Nat) : List It → Option (List It)
  | [] => none
  | .blk i :: k => if i = id then some k else outOf id k
  | _ :: k => outOf id k

def setL (l : List V) (off : Nat) (c : List V) : List V := l.take off ++ c ++ l.drop (off + c.length)

def memN : Nat → List Nat → Bool
  | _, [] => false
  | n, a :: l => if n = a then true else memN n l

def St.put (s : St) (d : Nat) (v : V) : St := { s with t := upd s.t d v }
/-- an operand is handed over: what it owned it owns no more -/
def St.drop (s : St) (x : Operand) : St := match x with
  | .tmp i => s.put i (s.t i).view
  | _ => s
/-- an operand, all of it -/
def St.all (s : St) (P : Program) (ty : TypeId) (x : Operand) : V := match x with
  | .tmp i => s.t i
  | x => rd P s.t ty x
/-- a view of an operand -/
def St.see (s : St) (P : Program) (ty : TypeId) (x : Operand) : V := match x with
  | .tmp i => (s.t i).view
  | x => (rd P s.t ty x).view
/-- a tree, and the world in which its row is written no more (dr: where the order is drawn no row is turned) -/
def St.tree (s : St) (P : Program) (ty : TypeId) (x : Operand) : Option (V × St) :=
  let s' := s.frz (s.see P ty x)
  (Ev.tree s' (s.see P ty x)).map (·, s')

def mapOpt {α β : Type} (f : α → Option β) : List α → Option (List β)
  | [] => some []
  | a :: l => match f a, mapOpt f l with
    | some b, some m => some (b :: m)
    | _, _ => none
def St.trees (P : Program) : St → List (TypeId × Operand) → Option (List V × St)
  | s, [] => some ([], s)
  | s, (ty, x) :: l => match s.tree P ty x with
    | some (v, s1) => match St.trees P s1 l with
      | some (vs, s2) => some (v :: vs, s2)
      | none => none
    | none => none

def isRef : V → Bool
  | .ptr .. | .eptr .. | .aref .. | .oref .. | .bref .. | .mp .. => true
  | .fn _ caps => !caps.isEmpty
  | _ => false
/-- an argument: a reference as it is, or a tree -/
def St.arg (s : St) (P : Program) (ty : TypeId) (x : Operand) : Option (V × St) := match s.see P ty x with
  | .ptr lv t off => some (.ptr lv t off, s)
  | .mp lv t => some (.mp lv t, s)
  | .fn f c => some (.fn f c, s)
  | _ => s.tree P ty x
def St.args (P : Program) : St → List (TypeId × Operand) → Option (List V × St)
  | s, [] => some ([], s)
  | s, (ty, x) :: l => match s.arg P ty x with
    | some (v, s1) => match St.args P s1 l with
      | some (vs, s2) => some (v :: vs, s2)
      | none => none
    | none => none

def findE (P : Program) (kt : TypeId) (k : V) : List (V × V) → Option (Option V)
  | [] => some none
  | e :: es => match eqV P kt k e.1 with
    | some true => some (some e.2)
    | some false => findE P kt k es
    | none => none
def putE (P : Program) (kt : TypeId) (k v : V) : List (V × V) → Option (List (V × V))
  | [] => some [(k, v)]
  | e :: es => match eqV P kt k e.1 with
    | some true => some ((k, v) :: es)
    | some false => (putE P kt k v es).map (e :: ·)
    | none => none

def optInt : Option V → Option (Option Int)
  | none => some none
  | some (.int _ n) => some (some n)
  | _ => none

def bytesV (s : ByteArray) : List V := s.data.toList.map fun b => .int .u8 (b.toNat : Int)
def u8 : V → Option Int
  | .int .u8 n => some n
  | _ => none
def ofInts (ns : List Int) : ByteArray := ns.foldl (fun r n => r.push (UInt8.ofNat n.toNat)) ByteArray.empty
def bt (s : ByteArray) (i : Int) : Int := if h : i.toNat < s.size then ((s[i.toNat]'h).toNat : Int) else 0

section
variable (P : Program) (H : Hint)
def sliceV (ty : TypeId) (v : V) (lo hi mx : Option Int) : Option V :=
  match v with
  | .str s => match mx with
    | some _ => none
    | none => if isStr P ty = true ∧ 0 ≤ lo.getD 0 ∧ lo.getD 0 ≤ hi.getD s.size ∧ hi.getD s.size ≤ s.size then some (.str (s.extract (lo.getD 0).toNat (hi.getD s.size).toNat)) else none
  | .slc _ sz xs => if isSl P ty = true ∧ sz = elemSz P ty ∧ sz ≠ 0 ∧ 0 ≤ lo.getD 0 ∧ lo.getD 0 ≤ hi.getD xs.length ∧ hi.getD xs.length ≤ xs.length then
      (match mx with
        | some m => if m = hi.getD xs.length ∧ hi.isSome then some (.slc true sz ((xs.take (hi.getD xs.length).toNat).drop (lo.getD 0).toNat)) else none
        | none => some (.slc false sz ((xs.take (hi.getD xs.length).toNat).drop (lo.getD 0).toNat)))
    else none
  | _ => none

/-- a type whose rows can be appended to -/
def growB (ty : TypeId) : Bool := isSl P ty && elemSz P ty != 0 && P.bytesOf (elemOf P ty) != 0 && (match zero P (elemOf P ty) with | some z => z.length == elemSz P ty | none => false)
def appendV (ty ty' : TypeId) (v x : V) : Option V :=
  match v with
  | .slc true sz l => if growB P ty = true ∧ sz = elemSz P ty then match x with
    | .slc _ sz' m => if isSl P ty' = true ∧ sz' = sz then if (l.length + m.length) * P.bytesOf (elemOf P ty) ≤ 140737488355328 then some (.slc true sz (l ++ m)) else none else none
    | .str s => if isStr P ty' = true ∧ sz = 1 then if (l.length + s.size) * P.bytesOf (elemOf P ty) ≤ 140737488355328 then some (.slc true 1 (l ++ bytesV s)) else none else none
    | _ => none
    else none
  | _ => none

/-- a list that nobody else sees, grown -/
def appendU (ty ty' : TypeId) (u : Bool) (v x : V) : Option V :=
  match v with
  | .uq sz l => (appendV P ty ty' (.slc true sz l) x).bind fun r => match r with
    | .slc true sz l => some (.uq sz l)
    | _ => none
  | v => if u then (match v with
    | .slc true sz [] => (appendV P ty ty' (.slc true sz []) x).bind fun r => match r with
      | .slc true sz l => some (.uq sz l)
      | _ => none
    | _ => none)
    else appendV P ty ty' v x

/-- a list that nobody else sees, put to another one's end -/
def appendO (ty ty' : TypeId) (v : V) (sz' : Nat) (m : List V) : Option V :=
  match v with
  | .uq sz l => if growB P ty = true ∧ sz = elemSz P ty ∧ isSl P ty' = true ∧ sz' = sz ∧ (l.length + m.length) * P.bytesOf (elemOf P ty) ≤ 140737488355328 then some (.uq sz (l ++ m)) else none
  | .slc true sz [] => if growB P ty = true ∧ sz = elemSz P ty ∧ isSl P ty' = true ∧ sz' = sz ∧ m.length * P.bytesOf (elemOf P ty) ≤ 140737488355328 then some (.uq sz m) else none
  | _ => none

def convV (src dst : TypeId) (v : V) : Option V :=
  match P.underlying src, P.underlying dst, v with
  | some (.int _), some (.int k), .int _ n => some (.int k (k.wrap n))
  | some .string, some .string, .str s => some (.str s)
  | some (.slice e), some .string, .slc _ sz l => match P.underlying e, mapOpt u8 l with
    | some (.int .u8), some ns => if sz = 1 then some (.str (ofInts ns)) else none
    | _, _ => none
  | _, _, _ => none

def lenV (s : St) (t : TypeId) : V → Option V
  | .slc _ _ l => if isSl P t then some (.int .i64 (l.length : Int)) else none
  | .str x => if isStr P t then some (.int .i64 (x.size : Int)) else none
  | .aref _ _ n => if isSl P t then some (.int .i64 (n : Int)) else none
  | .oref _ _ n => if isSl P t then some (.int .i64 (n : Int)) else none
  | .bref _ _ n => if isSl P t then some (.int .i64 (n : Int)) else none
  | .mp lv u => match P.underlying t, s.ob lv u with
    | some (.map _ _), some (.map es) => some (.int .i64 (es.length : Int))
    | _, _ => none
  | _ => none
def min2V : V → V → Option V
  | .int k a, .int k' b => if k = k' then some (.int k (if b < a then b else a)) else none
  | _, _ => none
def max2V : V → V → Option V
  | .int k a, .int k' b => if k = k' then some (.int k (if b > a then b else a)) else none
  | _, _ => none

def unV (op : UnOp) (v : V) : Option V := match op, v with
  | .not, .bool b => some (.bool (!b))
  | .neg, .int k n => some (.int k (k.wrap (0 - n)))
  | _, _ => none

/-- a struct's parts, each handed over -/
def buildF (fs : Array Field) : St → List V → List (Nat × Operand) → Option (List V × St)
  | s, cs, [] => some (cs, s)
  | s, cs, (i, x) :: ps => match fs[i]? with
    | some f =>
      let v := s.all P f.type x
      let c := v.flat
      if c.length = szOf P f.type ∧ f.offset + c.length ≤ cs.length then (match v with
        | .tup _ | .undef => none
        | _ => buildF fs (s.drop x) (setL cs f.offset c) ps) else none
    | none => none
/-- parts, each handed over -/
def handAll (e : TypeId) : St → List Operand → Option (List V × St)
  | s, [] => some ([], s)
  | s, x :: xs => match s.all P e x with
    | .tup _ | .undef => none
    | v => match handAll e (s.drop x) xs with
      | some (vs, s1) => some (v.hand :: vs, s1)
      | none => none
/-- are the parts told from 0 on, all of them -/
def inOrder : Nat → List (Nat × Operand) → Bool
  | _, [] => true
  | n, p :: ps => if p.1 = n then inOrder (n + 1) ps else false

def vLoad (s : St) (tk : Bool) (t : TypeId) : V → Option (V × St)
  | .ptr lv u off => match s.ob lv u with
    | some (.box cs) => if off + szOf P t ≤ cs.length ∧ szOf P t ≠ 0 then
        (if tk then some (pack (isAgg P t) ((cs.drop off).take (szOf P t)), s.setOb lv u (.box (setL cs off (((cs.drop off).take (szOf P t)).map V.viewC))))
        else some (pack (isAgg P t) (((cs.drop off).take (szOf P t)).map V.viewC), s)) else none
    | _ => none
  | .imp l => if szOf P t ≤ l.length ∧ szOf P t ≠ 0 then some (pack (isAgg P t) (l.take (szOf P t)), s) else none
  | .eptr lv u i sz => match s.ob lv u with
    | some (.arr _ sz' l) => if sz = szOf P t ∧ sz' = sz ∧ sz ≠ 0 ∧ i < l.length then some (pack (isAgg P t) (l.getD i .undef).flat, s) else none
    | some (.dir sz' l) => if sz = szOf P t ∧ sz' = sz ∧ sz ≠ 0 ∧ i < l.length then some (pack (isAgg P t) (l.getD i .undef).flat, s) else none
    | _ => none
  | _ => none

def uStore (s : St) (t : TypeId) (x : Operand) : V → Option St
  | .ptr lv u off =>
    let v := s.all P t x
    match s.ob lv u with
    | some (.box cs) => if v.flat.length = szOf P t ∧ off + szOf P t ≤ cs.length ∧ szOf P t ≠ 0 ∧ v.flat.all cellOk ∧ v.flat.all (lowV lv) then (match v with
        | .tup _ | .undef => none
        | _ => some ((s.drop x).setOb lv u (.box (setL cs off v.flat)))) else none
    | _ => none
  | .eptr lv u i sz => match s.ob lv u with
    | some (.aru sz' l) => let v := (s.all P t x).hand
      if sz = szOf P t ∧ sz' = sz ∧ v.flat.length = sz ∧ sz ≠ 0 ∧ i < l.length ∧ v.flat.all cellU = true then some ((s.drop x).setOb lv u (.aru sz (l.set i v))) else none
    | _ => match s.tree P t x with
      | some (v, s1) => match s1.ob lv u with
        | some (.arr false sz' l) => if sz = szOf P t ∧ sz' = sz ∧ v.flat.length = sz ∧ sz ≠ 0 ∧ i < l.length then some (s1.setOb lv u (.arr false sz (l.set i v))) else none
        | some (.dir sz' l) => if sz = szOf P t ∧ sz' = sz ∧ v.flat.length = sz ∧ sz ≠ 0 ∧ i < l.length then some (s1.setOb lv u (.dir sz (l.set i v))) else none
        | _ => none
      | none => none
  | _ => none

def vField (s : St) (t : TypeId) (f : Nat) (v : V) : Option V := match P.underlying t with
  | some (.struct fs) => match fs[f]?, v with
    | some f, .agg l => if f.offset + szOf P f.type ≤ l.length ∧ szOf P f.type ≠ 0 then some (pack (isAgg P f.type) ((l.drop f.offset).take (szOf P f.type))) else none
    | _, _ => none
  | _ => none
def vFieldAddr (t : TypeId) (f : Nat) (v : V) : Option V := match P.underlying t with
  | some (.struct fs) => match fs[f]? with
    | some f => if szOf P f.type ≠ 0 then (match v with
      | .ptr lv u off => some (.ptr lv u (off + f.offset))
      | .imp l => some (.imp (l.drop f.offset))
      | _ => none) else none
    | _ => none
  | _ => none
def vIndexAddr (t : TypeId) (v i : V) : Option V := match v, i with
  | .slc _ sz l, .int _ n => if isSl P t = true ∧ sz = elemSz P t ∧ sz ≠ 0 then if 0 ≤ n ∧ n < (l.length : Int) then some (.imp (l.getD n.toNat (dflt P t)).flat) else none else none
  | .aref lv u m, .int _ n => if isSl P t = true ∧ elemSz P t ≠ 0 then if 0 ≤ n ∧ n < (m : Int) then some (.eptr lv u n.toNat (elemSz P t)) else none else none
  | .oref lv u m, .int _ n => if isSl P t = true ∧ elemSz P t ≠ 0 then if 0 ≤ n ∧ n < (m : Int) then some (.eptr lv u n.toNat (elemSz P t)) else none else none
  | .bref lv u m, .int _ n => if isSl P t = true ∧ elemSz P t ≠ 0 then if 0 ≤ n ∧ n < (m : Int) then some (.ptr lv u (n.toNat * elemSz P t)) else none else none
  | .ptr lv u off, .int _ n => match P.underlying t with
    | some (.array k e) => if szOf P e ≠ 0 then if 0 ≤ n ∧ n < (k : Int) then some (.ptr lv u (off + n.toNat * szOf P e)) else none else none
    | _ => none
  | _, _ => none
def vIndex (t : TypeId) (v i : V) : Option V := match v, i with
  | .str b, .int _ n => if isStr P t = true then if 0 ≤ n ∧ n < (b.size : Int) then some (.int .u8 (bt b n)) else none else none
  | .agg l, .int _ n => match P.underlying t with
    | some (.array k e) => if szOf P e ≠ 0 ∧ l.length = k * szOf P e then if 0 ≤ n ∧ n < (k : Int) then some (pack (isAgg P e) ((l.drop (n.toNat * szOf P e)).take (szOf P e))) else none else none
    | _ => none
  | _, _ => none
def vLookup (s : St) (t : TypeId) (ok : Bool) (m k : V) : Option V := match P.underlying t, m with
  | some (.map kt e), .mp lv u => match s.ob lv u, zero P e with
    | some (.map es), some z => if (eqV P kt k k).isSome = true ∧ z.length = szOf P e ∧ z.length ≠ 0 ∧ (z.length = 1 ∨ isAgg P e = true) then match findE P kt k es with
      | some (some v) => some (if ok then .tup [v, .bool true] else v)
      | none => none
      | some none => some (if ok then .tup [(pack (isAgg P e) z).view, .bool false] else (pack (isAgg P e) z).view)
      else none
    | _, _ => none
  | _, _ => none
def uMap (s : St) (t : TypeId) (m k v : Operand) : Option St := match P.underlying t with
  | some (.map kt e) => match s.tree P kt k with
    | some (kv, s1) => match s1.tree P e v with
      | some (vv, s2) => match s2.see P t m with
        | .mp lv u => match s2.ob lv u with
          | some (.map es) => if (eqV P kt kv kv).isSome = true then (putE P kt kv vv es).map fun es => s2.setOb lv u (.map es) else none
          | _ => none
        | _ => none
      | none => none
    | none => none
  | _ => none

def isTmpIn (l : List Nat) : Operand → Bool
  | .tmp i => memN i l
  | _ => false
/-- cells, elements, each made what f makes of it -/
def mkCells (f : St → Nat → V → Option (V × St)) (M : Nat) (id : Nat) : St → Nat → List V → Option (List V × St)
  | s, _, [] => some ([], s)
  | s, k, c :: l => match f s (id + (k + 1) * M) c with
    | some (c', s1) => match mkCells f M id s1 (k + 1) l with
      | some (l', s2) => some (c' :: l', s2)
      | none => none
    | none => none
def V.refill : V → List V → V
  | .agg _, cs => .agg cs
  | _, cs => cs.headD .undef
def mkEls (f : St → Nat → V → Option (V × St)) (M id sz : Nat) : St → Nat → List V → Option (List V × St)
  | s, _, [] => some ([], s)
  | s, i, e :: l => match mkCells f M id s (i * sz) e.flat with
    | some (cs, s1) => match mkEls f M id sz s1 (i + 1) l with
      | some (l', s2) => some (e.refill cs :: l', s2)
      | none => none
    | none => none
/-- a list that nobody else sees, and what it owns, become objects -/
def mkC : Nat → St → Nat → V → Option (V × St)
  | n + 1, s, id, .uq sz (x :: l) => match mkEls (mkC n) (4294967296 ^ (n + 1)) id sz s 0 (x :: l) with
    | some (l', s1) => match s1.b id with
      | none => some (.aref s1.lv id l'.length, { s1 with b := upd s1.b id (some (.dir sz l')) })
      | some _ => none
    | none => none
  | _, s, _, .uq sz [] => some (.slc false sz [], s)
  | _, s, _, v => if pureC v then some (v, s) else none
def flatPure (l : List V) : Bool := (l.map V.flat).flatten.all pureC
/-- a list that nobody else sees becomes an object -/
def uMake (s : St) (d : Nat) : V → Option (V × St)
  | .uq sz [] => some (.slc true sz [], s)
  | .uq sz (x :: l) => if flatPure (x :: l) then (match s.b d with
    | none => some (.aref s.lv d (l.length + 1), { s with b := upd s.b d (some (.arr false sz (x :: l))) })
    | some _ => none) else mkC 8 s d (.uq sz (x :: l))
  | .nw l => if l.all pureC then (match s.b d with
    | none => some (.ptr s.lv d 0, { s with b := upd s.b d (some (.box l)) })
    | some _ => none) else none
  | v => some (v, s)
def uMakes (s : St) : Nat → List V → Option (List V × St)
  | _, [] => some ([], s)
  | d, c :: l => match uMakes s (d + 1) l with
    | some (l', s1) => (uMake s1 d c).map fun r => (r.1 :: l', r.2)
    | none => none
/-- flat lists alone become objects -/
def uMakeF (s : St) (d : Nat) (v : V) : Option (V × St) := match v with
  | .uq sz (x :: l) => if flatPure (x :: l) then uMake s d (.uq sz (x :: l)) else some (.uq sz (x :: l), s)
  | v => uMake s d v
def uMakesF (s : St) : Nat → List V → Option (List V × St)
  | _, [] => some ([], s)
  | d, c :: l => match uMakesF s (d + 1) l with
    | some (l', s1) => (uMakeF s1 d c).map fun r => (r.1 :: l', r.2)
    | none => none
/-- nested lists alone become variables of their cells -/
def uMakeN (s : St) (d : Nat) (v : V) : Option (V × St) := match v with
  | .uq sz (x :: l) => if flatPure (x :: l) then some (.uq sz (x :: l), s) else if sz = 1 ∧ (((x :: l).map V.flat).flatten.all cellU) = true then (match s.b d with
    | none => some (.bref s.lv d (l.length + 1), { s with b := upd s.b d (some (.box ((x :: l).map V.flat).flatten)) })
    | some _ => none) else none
  | v => some (v, s)
def uMakesN (s : St) : Nat → List V → Option (List V × St)
  | _, [] => some ([], s)
  | d, c :: l => match uMakesN s (d + 1) l with
    | some (l', s1) => (uMakeN s1 d c).map fun r => (r.1 :: l', r.2)
    | none => none
def isTmpN (l : List Nat) : Operand → Bool
  | .tmp i => memN (i + 2000000) l
  | _ => false
/-- a load that makes an object of the list it reads -/
def vLoadM (s : St) (d : Nat) (t : TypeId) : V → Option (V × St)
  | .ptr lv u off => if lv = s.lv then match s.b u with
    | some (.box cs) => if off < cs.length ∧ szOf P t = 1 ∧ isAgg P t = false then match cs.getD off .undef with
      | .uq sz (x :: l) => if flatPure (x :: l) then match s.b d with
        | none => some (.aref s.lv d (l.length + 1), { s with b := upd (upd (upd s.b u (some (.box (setL cs off [.undef])))) d (some (.arr false sz (x :: l)))) u (some (.box (setL cs off [.aref s.lv d (l.length + 1)]))) })
        | some _ => none
        else none
      | _ => none
      else none
    | _ => none
    else none
  | _ => none
def isTmpF (l : List Nat) : Operand → Bool
  | .tmp i => memN (i + 1000000) l
  | _ => false
/-- a store that makes objects of such lists -/
def uStoreM (mk : St → Nat → List V → Option (List V × St)) (s : St) (t : TypeId) (x : Operand) : V → Option St
  | .ptr lv u off =>
    let v := s.all P t x
    if lv = s.lv ∧ v.flat.length = szOf P t then match v with
      | .tup _ | .undef => none
      | _ => match mk (s.drop x) (s.n + 64 * u + off) v.flat with
        | some (cs', s1) => match s1.ob lv u with
          | some (.box cs) => if off + szOf P t ≤ cs.length ∧ szOf P t ≠ 0 ∧ cs'.all cellOk ∧ cs'.all (lowV lv) then some (s1.setOb lv u (.box (setL cs off cs'))) else none
          | _ => none
        | none => none
    else none
  | _ => none

/-- a row that is to be handed back: all else of the frame is given up -/
def thaw (s : St) : V → Option (V × St)
  | .oref lv u n => if lv = s.lv then (match s.b u with
    | some (.aru sz l) => if l.length = n then some (.uq sz l, { s with t := e0, b := n0 }) else none
    | _ => none) else none
  | _ => none
/-- an operation that gives a value and calls no function -/
def evV (d : Nat) (ty : TypeId) (op : Op) (s : St) : Option (V × St) :=
  match op with
  | .move x | .assign x => match x with
    | .tmp i => if memN d H.own then thaw s (s.t i) else if memN d H.frz then s.tree P ty (.tmp i) else if memN d H.take then (if memN d H.make then uMake (s.drop x) d (s.t i) else some (s.t i, s.drop x)) else some ((s.t i).view, s)
    | x => some (rd P s.t ty x, s)
  | .pick c a b => match s.see P 0 c with
    | .bool cb => some (V.ite cb (s.see P ty a) (s.see P ty b), s)
    | _ => none
  | .alloc e => match s.b d, zero P e with
    | none, some z => if z.all (lowV s.lv) then some (.ptr s.lv d 0, { s with b := upd s.b d (some (.box z)) }) else none
    | _, _ => none
  | .box e x => match s.b d, s.all P e x with
    | none, .tup _ => none
    | none, .undef => none
    | none, v => if v.flat.all (lowV s.lv) then some (.ptr s.lv d 0, { s.drop x with b := upd s.b d (some (.box v.flat)) }) else none
    | some _, _ => none
  | .build t ps => match P.underlying t, zero P t with
    | some (.struct fs), some z => if fs.toList.all (fun f => szOf P f.type != 0) then (buildF P fs s z ps.toList).map fun r => (.agg r.1, r.2) else none
    | some (.array n e), some z => if inOrder 0 ps.toList && decide (ps.size ≤ n) && szOf P e != 0 && z.length == n * szOf P e && szOf P t != 0 then
        match St.trees P s (ps.toList.map fun p => (e, p.2)) with
        | some (vs, s1) => if vs.all (fun v => v.flat.length == szOf P e) then some (.agg ((vs.map V.flat).flatten ++ (z.drop (vs.length * szOf P e)).map V.viewC), s1) else none
        | none => none
      else none
    | _, _ => none
  | .buildSlice t n ps => if memN d H.own then (if isSl P t && inOrder 0 ps.toList && ps.size == n && elemSz P t != 0 && decide (n * elemSz P t ≤ 16777216) && (zero P (elemOf P t)).isSome then
      match handAll P (elemOf P t) s (ps.toList.map (·.2)) with
      | some (vs, s1) => if vs.all (fun v => v.flat.length == elemSz P t && v.flat.all cellU) && !vs.isEmpty then some (.uq (elemSz P t) vs, s1) else none
      | none => none
    else none) else if isSl P t && inOrder 0 ps.toList && ps.size == n && elemSz P t != 0 && decide (n * elemSz P t ≤ 16777216) && (zero P (elemOf P t)).isSome then
      match St.trees P s (ps.toList.map fun p => (elemOf P t, p.2)) with
      | some (vs, s1) => if vs.all (fun v => v.flat.length == elemSz P t) then
          (if memN d H.make then match s1.b d with
            | none => some (.aref s.lv d n, { s1 with b := upd s1.b d (some (.arr false (elemSz P t) vs)) })
            | some _ => none
          else some (.slc true (elemSz P t) vs, s1))
        else none
      | none => none
    else none
  | .load t a => if memN d H.make then vLoadM P s d t (s.see P 0 a) else vLoad P s (memN d H.take) t (s.see P 0 a)
  | .nilCheck x => match s.see P 0 x with
    | .ptr lv t off => some (.ptr lv t off, s)
    | .imp l => some (.imp l, s)
    | .eptr lv t i sz => some (.eptr lv t i sz, s)
    | .fn f c => some (.fn f c, s)
    | _ => none
  | .binOp op ty x y _ => if isNilc y then (nilCmp P op ty (s.see P ty x)).map (·, s) else (binV P ty op (s.see P ty x) (s.see P ty y)).map (·, s)
  | .unOp op ty x => (unV op (s.see P ty x)).map (·, s)
  | .convert src dst x => (convV P src dst (s.see P src x)).map (·, s)
  | .makeFunc (.func f) first caps => if first.isEmpty then (mapOpt (fun x => match s.see P 0 x with | .ptr lv t off => some (.ptr lv t off) | _ => none) caps.toList).map fun cs => (.fn f cs, s) else none
  | .makeMap _ r => match s.b d, r with
    | none, none => some (.mp s.lv d, { s with b := upd s.b d (some (.map [])) })
    | _, _ => none
  | .makeSlice t l c => match s.see P 0 l, s.see P 0 c, zero P (elemOf P t) with
    | .int _ n, .int _ m, some z => if isSl P t = true ∧ elemSz P t ≠ 0 ∧ P.bytesOf (elemOf P t) ≠ 0 ∧ z.length = elemSz P t ∧ (dflt P t).flat.length = elemSz P t then
        if 0 ≤ n ∧ n ≤ m ∧ m * P.bytesOf (elemOf P t) ≤ 140737488355328 then
        (if memN d H.make then match s.b d with
          | none => some (.aref s.lv d n.toNat, { s with b := upd s.b d (some (.arr false (elemSz P t) (List.replicate n.toNat (dflt P t)))) })
          | some _ => none
        else if memN d H.own then match s.b d with
          | none => if n = m ∧ (dflt P t).flat.all pureC = true then some (.oref s.lv d n.toNat, { s with b := upd s.b d (some (.aru (elemSz P t) (List.replicate n.toNat (dflt P t)))) }) else none
          | some _ => none
        else some (.slc true (elemSz P t) (List.replicate n.toNat (dflt P t)), s))
        else none
      else none
    | _, _, _ => none
  | .slice t x lo hi mx => match optInt (lo.map (s.see P 0)), optInt (hi.map (s.see P 0)), optInt (mx.map (s.see P 0)) with
    | some l, some h, some m => (sliceV P t (s.see P t x) l h m).map (·, s)
    | _, _, _ => none
  | .fieldAddr t x f => (vFieldAddr P t f (s.see P 0 x)).map (·, s)
  | .field t x f => (vField P s t f (s.see P t x)).map (·, s)
  | .indexAddr t x i => (vIndexAddr P t (s.see P t x) (s.see P 0 i)).map (·, s)
  | .index t x i => (vIndex P t (s.see P t x) (s.see P 0 i)).map (·, s)
  | .lookup t m k ok => match P.underlying t with
    | some (.map kt e) => (vLookup P s t ok (s.see P t m) (s.see P kt k)).map (·, s)
    | _ => none
  | .extract x i => match x with
    | .tmp u => match s.t u with
      | .tup l => (l[i]?).map fun v => (if memN d H.frz then v.settle else v, s.put u (.tup (l.set i .undef)))
      | _ => none
    | _ => none
  | .call { callee := .builtin b, args, argTypes } => match b, args.toList, argTypes.toList with
    | .len, [x], [t] => (lenV P s t (s.see P t x)).map (·, s)
    | .min, [x, y], _ => (min2V (s.see P 0 x) (s.see P 0 y)).map (·, s)
    | .max, [x, y], _ => (max2V (s.see P 0 x) (s.see P 0 y)).map (·, s)
    | .append, [x, y], [t, t'] => if memN d H.own then (match s.all P t' y with
        | .uq sz m => (appendO P t t' ((s.drop y).all P t x) sz m).map (·, (s.drop y).drop x)
        | _ => none)
      else (appendU P t t' (memN d H.uniq) (s.all P t x) (s.see P t' y)).map (·, s.drop x)
    | _, _, _ => none
  | _ => none
/-- an operation that gives none -/
def evU (op : Op) (s : St) : Option St :=
  match op with
  | .store t a x => if isTmpIn H.make a then uStoreM P uMakes s t x (s.see P 0 a) else if isTmpF H.make a then uStoreM P uMakesF s t x (s.see P 0 a) else if isTmpN H.make a then uStoreM P uMakesN s t x (s.see P 0 a) else uStore P s t x (s.see P 0 a)
  | .mapUpdate t m k v | .insert t m k v => uMap P s t m k v
  | _ => none
def evOp (o : Oper) (s : St) : Option St := match o.dst with
  | some d => if d < s.n then (evV P H d o.type o.op s).map fun r => r.2.put d r.1 else none
  | none => evU P H o.op s
end

inductive Out where
  | go (k : List It) (s : St)
  | call (f : Nat) (args : List V) (outer : List (Nat → Option Ob)) (plain : Bool × Bool × Bool) (d : Option Nat) (k : List It) (s : St)
  | done (v : V) (o : List (Nat → Option Ob))
  | draw (ops : Array Oper) (c : List Nat) (alt : Option (Nat × Nat × List Nat)) (k : List It) (s : St)
  | fail

def argT : Nat → List V → (Nat → V)
  | _, [] => e0
  | i, a :: l => upd (argT (i + 1) l) i a

/-- a result's cell: rows are written no more -/
def resC (s : St) : V → Option (V × St)
  | .aref lv u n => (tree (s.frz (.aref lv u n)) (.aref lv u n)).map (·, s.frz (.aref lv u n))
  | v => if v.outC then some (v, s) else none
def resCs : St → List V → Option (List V × St)
  | s, [] => some ([], s)
  | s, c :: l => match resC s c with
    | some (c', s1) => match resCs s1 l with
      | some (l', s2) => some (c' :: l', s2)
      | none => none
    | none => none
def resW (s : St) : V → Option (V × St)
  | .agg l => (resCs s l).map fun r => (.agg r.1, r.2)
  | v => resC s v
/-- a value read as a tree, what is the frame's as it stands when the frame ends -/
def peekR (s : St) : Nat → V → Option V
  | _ + 1, .aref lv t k => if lv = s.lv then match s.b t with
    | some (.arr _ sz l) => if l.length = k then some (.slc false sz l) else none
    | _ => none
    else none
  | n + 1, .bref lv t k => if lv = s.lv then match s.b t with
    | some (.box cs) => if cs.length = k then (mapOpt (peekR s n) cs).map (.slc false 1 ·) else none
    | _ => none
    else none
  | _, .uq sz l => some (V.ice (.uq sz l))
  | _, v => if pureC v.viewC then some v.viewC else none
def peekW (s : St) : V → Option V
  | .agg l => (mapOpt (peekR s 9) l).map .agg
  | v => peekR s 9 v
/-- a result, handed over -/
def resV (P : Program) (s : St) : ResultVar → Option (V × St)
  | .tmp t => match s.t t with
    | .ptr lv u off => if lv = s.lv ∧ off = 0 then (match s.b u with
      | some (.box cs) => if (cs.map V.viewC).all pureC then some (.nw (cs.map V.viewC), s) else none
      | _ => none) else none
    | v => resW s v
  | .cell x ty => match vLoad P s true ty (s.see P 0 (.tmp x)) with
    | some (v, s1) => match resW s1 v with
      | some r => some r
      | none => match vLoad P s false ty (s.see P 0 (.tmp x)) with
        | some (v, s1) => (peekW s1 v.view).map (·, s1)
        | none => none
    | none => none
/-- one of many results, as a tree -/
def resT (P : Program) (s : St) : ResultVar → Option (V × St)
  | .tmp t => s.tree P 0 (.tmp t)
  | .cell x ty => match vLoad P s false ty (s.see P 0 (.tmp x)) with
    | some (v, s1) => if v.view.flat.all pureC then some (v.view, s1) else none
    | none => none
def resTs (P : Program) : St → List ResultVar → Option (List V × St)
  | s, [] => some ([], s)
  | s, r :: rs => match resT P s r with
    | some (v, s1) => match resTs P s1 rs with
      | some (vs, s2) => some (v :: vs, s2)
      | none => none
    | none => none
/-- many results, each handed over -/
def resUs : St → List ResultVar → Option (List V × St)
  | s, [] => some ([], s)
  | s, .tmp t :: rs => match resW (s.put t (s.t t).view) (s.t t) with
    | some (v, s1) => match resUs s1 rs with
      | some (vs, s2) => some (v :: vs, s2)
      | none => none
    | none => none
  | _, .cell _ _ :: _ => none
/-- the first of many may lie in a variable -/
def resHs (P : Program) (s : St) : List ResultVar → Option (List V × St)
  | .cell x ty :: rs => match vLoad P s true ty (s.see P 0 (.tmp x)) with
    | some (u, s1) => match resW s1 u with
      | some (v, s2) => match resUs s2 rs with
        | some (vs, s3) => some (v :: vs, s3)
        | none => none
      | none => none
    | none => none
  | rs => resUs s rs
def resQs (P : Program) (s : St) (rs : List ResultVar) : Option (List V × St) := match resTs P s rs with
  | some x => some x
  | none => resHs P s rs
def endV (P : Program) (s : St) : Option (V × St) := match s.r.toList with
  | [r] => resV P s r
  | rs => (resQs P s rs).map fun x => (.tup x.1, x.2)

def St.putO (s : St) (d : Option Nat) (v : V) : St := match d with
  | some d => s.put d v
  | none => s
/-- is a list of the callee's that nobody else sees to be written no more -/
def setF (E : Env) (g : Nat) (d : Option Nat) (s : St) : Bool := match (E.H g).uniq with
  | [] => false
  | _ :: _ => match d with
    | some d => !memN d (E.H s.f).uniq
    | none => true
/-- a value read as a tree, references and all, as they stand -/
def peekL (f : V → Option V) : List V → Option (List V)
  | [] => some []
  | e :: l => match mapOpt f e.flat, peekL f l with
    | some cs, some l' => some (e.refill cs :: l')
    | _, _ => none
def peekC (s : St) : Nat → V → Option V
  | n + 1, .aref lv t k => match s.ob lv t with
    | some (.arr _ sz l) => if l.length = k then some (.slc false sz l) else none
    | some (.dir sz l) => if l.length = k then (peekL (peekC s n) l).map (.slc false sz ·) else none
    | _ => none
  | _, v => if pureC v.viewC then some v.viewC else none
def St.peek (s : St) (P : Program) (ty : TypeId) (x : Operand) : Option V := match s.see P ty x with
  | .agg l => (mapOpt (peekC s 9) l).map .agg
  | v => peekC s 9 v
def St.peeks (s : St) (P : Program) : List (TypeId × Operand) → Option (List V)
  | [] => some []
  | (ty, x) :: l => match s.peek P ty x, s.peeks P l with
    | some v, some vs => some (v :: vs)
    | _, _ => none
/-- an argument by reference -/
def St.argR0 (s : St) (P : Program) (ty : TypeId) (x : Operand) : Option (V × St) := match s.see P ty x with
  | .aref lv t n => some (.aref lv t n, s)
  | .agg l => if l.all cellD then some (.agg l, s) else none
  | _ => s.arg P ty x
def tmpI : Operand → Nat
  | .tmp i => i
  | _ => 0
/-- a list that nobody else sees is given; a variable that was handed back becomes one of the frame -/
def St.argR (s : St) (P : Program) (ty : TypeId) (x : Operand) : Option (V × St) := match s.all P ty x with
  | .uq sz l => some (.uq sz l, s.drop x)
  | .slc true sz [] => some (.uq sz [], s.drop x)
  | .nw l => uMake (s.drop x) (tmpI x) (.nw l)
  | _ => s.argR0 P ty x
def St.argRs (P : Program) : St → List (TypeId × Operand) → Option (List V × St)
  | s, [] => some ([], s)
  | s, (ty, x) :: l => match s.argR P ty x with
    | some (v, s1) => match St.argRs P s1 l with
      | some (vs, s2) => some (v :: vs, s2)
      | none => none
    | none => none
def inOpt (d : Option Nat) (l : List Nat) : Bool := match d with
  | some d => memN d l
  | none => false
/-- a call whose arguments are read as they stand, and that gives nothing that reads what is theirs -/
def callB (E : Env) (d : Option Nat) (f : Operand) (args : Array Operand) (argTypes : Array TypeId) (k : List It) (s : St) : Out :=
  match s.see E.P 0 f, s.peeks E.P (argTypes.toList.zip args.toList) with
  | .fn g [], some vs => if args.size = argTypes.size ∧ d.all (fun d => decide (d < s.n)) then .call g vs [] (true, false, true) d k s else .fail
  | _, _ => .fail
/-- a call that is handed rows by reference -/
def callL (E : Env) (d : Option Nat) (f : Operand) (args : Array Operand) (argTypes : Array TypeId) (k : List It) (s : St) : Out :=
  match s.see E.P 0 f, s.argRs E.P (argTypes.toList.zip args.toList) with
  | .fn g [], some (vs, s1) => if args.size = argTypes.size ∧ d.all (fun d => decide (d < s.n)) then .call g vs (s1.b :: s1.o) (false, setF E g d s1, false) d k s1 else .fail
  | _, _ => .fail
def callN (E : Env) (d : Option Nat) (f : Operand) (args : Array Operand) (argTypes : Array TypeId) (k : List It) (s : St) : Out :=
  match s.see E.P 0 f, s.args E.P (argTypes.toList.zip args.toList) with
  | .fn g caps, some (vs, s1) => if args.size = argTypes.size ∧ d.all (fun d => decide (d < s.n)) then
    (if (vs ++ caps).any isRef || !caps.isEmpty then .call g (vs ++ caps) (s1.b :: s1.o) (false, setF E g d s1, false) d k s1
    else match E.orc g (vs ++ caps) with
    | some v => .go k (s1.putO d v)
    | none => .call g (vs ++ caps) [] (true, setF E g d s1, false) d k s1)
    else .fail
  | _, _ => .fail
def callOp (E : Env) (d : Option Nat) (f : Operand) (args : Array Operand) (argTypes : Array TypeId) (k : List It) (s : St) : Out :=
  if inOpt d (E.H s.f).brw then callB E d f args argTypes k s
  else if inOpt d (E.H s.f).lend then callL E d f args argTypes k s
  else callN E d f args argTypes k s

theorem callOp_N {E : Env} {d : Option Nat} {f : Operand} {args : Array Operand} {argTypes : Array TypeId} {k : List It} {s : St} (h : inOpt d (E.H s.f).brw = false) (h' : inOpt d (E.H s.f).lend = false) : callOp E d f args argTypes k s = callN E d f args argTypes k s := by
  unfold callOp
  rw [if_neg (by rw [h]; exact Bool.false_ne_true), if_neg (by rw [h']; exact Bool.false_ne_true)]
/-! drawn orders -/
/-- what a run by another reading gives: the callee's answer -/
def startS (E : Env) (f : Nat) (args : List V) (outer : List (Nat → Option Ob)) : Option (List It × St) :=
  match E.P.funcs[f]? with
  | some fn => if args.length ≤ fn.ntmps ∧ (fn.name == "runtime.NumGoroutine") = false then fn.body.map fun c => ([.code c], { t := argT 0 args, b := n0, o := outer, r := fn.results, f := f, n := fn.ntmps }) else none
  | none => none
def isCell : V → Bool
  | .agg _ | .tup _ => false
  | _ => true
def V.aggOk : V → Bool
  | .agg m => m.all isCell
  | .tup _ => false
  | _ => true
def V.flatOk : V → Bool
  | .tup l => l.all V.aggOk
  | v => v.aggOk
def finV (plain : Bool × Bool) (v : V) : V := if plain.2 then (if v.free && v.flatOk then v else .undef) else setl plain.1 v
def backS (s : St) (plain : Bool × Bool × Bool) (d : Option Nat) (v : V) (o : List (Nat → Option Ob)) : St :=
  if plain.1 then s.putO d (finV plain.2 v) else { s.putO d (finV plain.2 v) with b := o.headD n0, o := o.tail }
abbrev Run := List It → St → Option (V × List (Nat → Option Ob))
def evCallV (E : Env) (ev : Run) : Out → Option St
  | .go _ s' => some s'
  | .call f args outer plain d _ s' => match startS E f args outer with
    | none => none
    | some (k0, s0) => match ev k0 s0 with
      | none => none
      | some r => some (backS s' plain d r.1 r.2)
  | _ => none
def stepOV (E : Env) (ev : Run) (o : Oper) (s : St) : Option St := match o.op with
  | .call { callee := .value f, args, argTypes } => evCallV E ev (callOp E o.dst f args argTypes [] s)
  | _ => evOp E.P (E.H s.f) o s
/-- is the operation wanted -/
def guardS (all : Array Oper) (o : Oper) (s : St) : Option Bool := match o.guard with
  | none => some true
  | some (j, want) => match ((all[j]?).bind (·.dst)).map s.t with
    | some (.bool b) => some (b == want)
    | some (.tup []) => some false
    | _ => none

/-- operations that meet no object -/
def isX (P : Program) (H : Hint) (o : Oper) : Bool := match o.dst with
  | none => false
  | some d => match o.op with
    | .move _ | .assign _ => !(memN d H.frz || memN d H.make || memN d H.own)
    | .pick .. | .nilCheck _ | .binOp .. | .unOp .. | .convert .. | .slice .. | .fieldAddr .. | .field .. | .indexAddr .. | .index .. | .extract .. => true
    | .build t _ => match P.underlying t with
      | some (.struct _) => !memN d H.arrs
      | some (.array _ _) => memN d H.arrs
      | _ => false
    | .makeSlice .. => !memN d H.make && !memN d H.own
    | .buildSlice .. => !memN d H.make
    | .call { callee := .builtin b, args, argTypes } => match b, args.toList, argTypes.toList with
      | .len, [_], [_] | .min, [_, _], _ | .max, [_, _], _ => true
      | .append, [_, _], [_, _] => !memN d H.own
      | _, _, _ => false
    | .call { callee := .value _, .. } => !memN d H.deep && !(memN d H.brw || memN d H.lend)
    | _ => false
/-- operations that read objects alone -/
def isL (H : Hint) (o : Oper) : Bool := match o.dst with
  | none => false
  | some d => match o.op with
    | .load .. => !memN d H.take && !memN d H.make
    | .lookup .. => true
    | .call { callee := .value _, .. } => memN d H.brw || (memN d H.deep && memN d H.ro && !(memN d H.brw || memN d H.lend))
    | _ => false
/-- operations that turn objects, of which the frame is known -/
def isW (H : Hint) (o : Oper) : Bool := match o.op, o.dst with
  | .alloc _, some _ => true
  | .load .., some d => memN d H.take || memN d H.make
  | .store .., none => true
  | .call { callee := .value _, .. }, some d => memN d H.deep && !memN d H.ro && !(memN d H.brw || memN d H.lend)
  | _, _ => false
def tmpsOf : List Operand → List Nat
  | [] => []
  | .tmp i :: l => i :: tmpsOf l
  | _ :: l => tmpsOf l
/-- what an operation hands over -/
def drops (H : Hint) (o : Oper) : List Nat := match o.op with
  | .move x | .assign x => if memN (o.dst.getD 0) H.take then tmpsOf [x] else []
  | .build _ ps => if memN (o.dst.getD 0) H.arrs then [] else tmpsOf (ps.toList.map (·.2))
  | .buildSlice _ _ ps => if memN (o.dst.getD 0) H.own then tmpsOf (ps.toList.map (·.2)) else []
  | .call { callee := .builtin .append, args, .. } => tmpsOf (args.toList.take 1)
  | .store _ _ x => tmpsOf [x]
  | _ => []
/-- tuples of which a part is handed over -/
def cuts (H : Hint) (o : Oper) : List Nat := match o.op with
  | .extract (.tmp u) _ => if memN (o.dst.getD 0) H.own then [u] else []
  | _ => []
def chg (H : Hint) (o : Oper) : List Nat := o.dst.toList ++ (drops H o ++ cuts H o)
def looks (all : Array Oper) (o : Oper) : List Nat := tmpsOf o.op.operands.toList ++ (match o.guard with
  | some (g, _) => ((all[g]?).bind (·.dst)).toList
  | none => [])
def isMp : V → Bool
  | .mp .. => true
  | _ => false
/-- no object is met by the way -/
def dynX (P : Program) (o : Oper) (s : St) : Bool := match o.op with
  | .build _ ps | .buildSlice _ _ ps => ps.toList.all fun p => !isRef (s.see P 0 p.2)
  | .call { callee := .value f, args, .. } => !isRef (s.see P 0 f) && args.toList.all fun x => !isRef (s.see P 0 x)
  | .call { callee := .builtin .len, args, .. } => args.toList.all fun x => !isMp (s.see P 0 x)
  | _ => true
/-- a part of a tuple -/
def extV (H : Hint) (d : Nat) (v : V) : V := if memN d H.own then (if memN d H.frz then v.settle else v) else v.view
/-- the value of an operation that meets no object -/
def xval (E : Env) (ev : Run) (o : Oper) (s : St) : Option V := match o.op with
  | .extract (.tmp u) i => match s.t u with
    | .tup l => (l[i]?).map (extV (E.H s.f) (o.dst.getD 0))
    | _ => none
  | .call { callee := .value f, args, argTypes } => match s.see E.P 0 f, s.args E.P (argTypes.toList.zip args.toList) with
    | .fn g [], some (vs, _) => if args.size = argTypes.size ∧ o.dst.all (fun d => decide (d < s.n)) then
        (match E.orc g vs with
        | some v => some v
        | none => match startS E g vs [] with
          | some (k0, s0) => (ev k0 s0).map fun r => setl (setF E g o.dst s) r.1
          | none => none)
      else none
    | _, _ => none
  | _ => (evV E.P (E.H s.f) (o.dst.getD 0) o.type o.op s).map (·.1)
def V.cut : V → V
  | .tup l => .tup (l.map V.view)
  | v => v.view
def setT (t : Nat → V) (D C : List Nat) (d : Option Nat) (v : V) : Nat → V := fun x => if d = some x then v else if memN x D then (t x).view else if memN x C then (t x).cut else t x
def St.setX (s : St) (H : Hint) (o : Oper) (v : V) : St := { s with t := setT s.t (drops H o) (cuts H o) o.dst v }
open Classical in
/-- what a call is that turns its result alone -/
noncomputable def callVal (d : Option Nat) (s : St) : Option St → Option V
  | some s1 => match d with
    | some d => if s1 = s.put d (s1.t d) then some (s1.t d) else none
    | none => none
  | none => none
noncomputable def lval (E : Env) (ev : Run) (o : Oper) (s : St) : Option V := match o.op with
  | .call { callee := .value f, args, argTypes } => if inOpt o.dst (E.H s.f).brw = true then callVal o.dst s (evCallV E ev (callB E o.dst f args argTypes [] s)) else if (args.toList.all fun x => !isRef (s.see E.P 0 x)) = true then callVal o.dst s (evCallV E ev (callN E o.dst f args argTypes [] s)) else none
  | _ => (evV E.P (E.H s.f) (o.dst.getD 0) o.type o.op s).map (·.1)

def edges (o : Oper) : List Nat := (o.after.toList.filter (Region.binds .any)).map (·.on)
/-- does a come before i by the edges -/
def prec (all : Array Oper) : Nat → Nat → Nat → Bool
  | 0, _, _ => false
  | n + 1, a, i => match all[i]? with
    | some o => (edges o).any fun e => e == a || prec all n a e
    | none => false
def apartL (l m : List Nat) : Bool := l.all fun x => !memN x m
def commOk (P : Program) (H : Hint) (all : Array Oper) (a i : Nat) : Bool := match all[a]?, all[i]? with
  | some x, some y => ((isX P H x && (isX P H y || isL H y || isW H y)) || (isL H x && (isX P H y || isL H y || isW H y)) || (isW H x && isX P H y)) &&
      apartL (chg H x) (looks all y ++ chg H y) && apartL (chg H y) (looks all x ++ chg H x)
  | _, _ => false
def inDst (s : St) (o : Oper) : Bool := o.dst.all fun d => decide (d < s.n)
open Classical in
/-- the values read before are what is read now -/
noncomputable def still (E : Env) (ev : Run) (all : Array Oper) (i : Nat) (s : St) : List (Nat × V) → Bool
  | [] => true
  | (k, v) :: l => (prec all all.size k i || match all[k]? with
    | some o => if lval E ev o s = some v then true else false
    | none => false) && still E ev all i s l
noncomputable def dstep (E : Env) (ev : Run) (all : Array Oper) (i : Nat) (s : St) (done : List (Nat × V)) : Option (St × List (Nat × V)) := match all[i]? with
  | none => none
  | some o => match guardS all o s with
    | none => none
    | some false => some (s.putO o.dst (.tup []), done)
    | some true =>
      if isX E.P (E.H s.f) o then (if dynX E.P o s && inDst s o then (xval E ev o s).map fun v => (s.setX (E.H s.f) o v, done) else none)
      else if isL (E.H s.f) o then (if inDst s o then (lval E ev o s).map fun v => (s.setX (E.H s.f) o v, (i, v) :: done) else none)
      else match stepOV E ev o s with
        | some s1 => if still E ev all i s1 done then some (s1, done) else none
        | none => none
noncomputable def drun (E : Env) (ev : Run) (all : Array Oper) : List Nat → St → List (Nat × V) → Option St
  | [], s, _ => some s
  | i :: c, s, done => (dstep E ev all i s done).bind fun r => drun E ev all c r.1 r.2
/-- the order in which a region is read -/
def orderOf (H : Hint) (id n : Nat) : List Nat := ((H.orders.find? (·.1 == id)).map (·.2)).getD (List.range n)
def linOk (all : Array Oper) : List Nat → List Nat → Bool
  | _, [] => true
  | seen, i :: c => (match all[i]? with
    | some o => (edges o).all fun e => memN e seen
    | none => false) && !memN i seen && linOk all (i :: seen) c
/-- a variable handed over, and looked at -/
def sibM (H : Hint) (all : Array Oper) (a i : Nat) : Bool := match all[a]?, all[i]? with
  | some ⟨some d, .move (.tmp u), _, _, _, none⟩, some ⟨some d', .move (.tmp u'), _, _, _, none⟩ => u == u' && memN d H.take && !(memN d H.frz || memN d H.make || memN d H.own) && !memN d' H.take && !(memN d' H.frz || memN d' H.make || memN d' H.own) && d != d' && d != u && d' != u
  | _, _ => false
/-- two parts of one tuple, the first handed over -/
def sibX (H : Hint) (all : Array Oper) (a i : Nat) : Bool := match all[a]?, all[i]? with
  | some ⟨some d, .extract (.tmp u) _, _, _, _, none⟩, some ⟨some d', .extract (.tmp u') _, _, _, _, none⟩ => u == u' && memN d H.own && !memN d' H.own && d != d' && d != u && d' != u
  | _, _ => false
def sibOk (H : Hint) (all : Array Oper) (a i : Nat) : Bool := sibX H all a i || sibM H all a i
/-- of two, the first before the second: by the edges, or they may be exchanged; and what the first read is read the same behind the second -/
def pairOk (P : Program) (H : Hint) (all : Array Oper) (a i : Nat) : Bool := (prec all all.size a i || (commOk P H all a i || sibOk H all a i)) && (match all[a]?, all[i]? with
  | some x, some y => !isL H x || apartL (chg H y) (looks all x)
  | _, _ => false)
def selfOk (H : Hint) (all : Array Oper) (a : Nat) : Bool := match all[a]? with
  | some x => !isL H x || apartL (chg H x) (looks all x)
  | none => false
def pairsOk (P : Program) (H : Hint) (all : Array Oper) : List Nat → Bool
  | [] => true
  | a :: c => selfOk H all a && c.all (pairOk P H all a) && pairsOk P H all c
def drawOk (P : Program) (H : Hint) (all : Array Oper) (c : List Nat) : Bool :=
  c.length == all.size && ((List.range all.size).all fun i => memN i c) && linOk all [] c && pairsOk P H all c

/-- a second order of a region: two operations that turn objects, and the order in which they stand the other way round -/
def altOf (H : Hint) (id : Nat) : Option (Nat × Nat × List Nat) := match H.orders.find? (·.1 == id + 1000000) with
  | some (_, a :: b :: c) => some (a, b, c)
  | _ => none
def pairsV (P : Program) (H : Hint) (all : Array Oper) (a b : Nat) : List Nat → Bool
  | [] => true
  | x :: c => selfOk H all x && c.all (fun y => pairOk P H all x y || (x == a && y == b)) && pairsV P H all a b c
def turns (H : Hint) (all : Array Oper) (a : Nat) : Bool := match all[a]? with
  | some x => isW H x
  | none => false
def drawV (P : Program) (H : Hint) (all : Array Oper) (a b : Nat) (c : List Nat) : Bool :=
  c.length == all.size && ((List.range all.size).all fun i => memN i c) && linOk all [] c && pairsV P H all a b c
def drawOk2 (P : Program) (H : Hint) (all : Array Oper) (c : List Nat) : Option (Nat × Nat × List Nat) → Bool
  | none => drawOk P H all c
  | some (a, b, c2) => turns H all a && turns H all b && a != b && drawV P H all a b c && drawV P H all b a c2
open Classical in
noncomputable def sameS (s1 s2 : St) : Option St := if s1 = s2 then some s1 else none
/-- a region in its order; if there are two orders, both come to the same -/
noncomputable def dall (E : Env) (ev : Run) (all : Array Oper) (c : List Nat) (alt : Option (Nat × Nat × List Nat)) (s : St) : Option St := match alt with
  | none => drun E ev all c s []
  | some (_, _, c2) => (drun E ev all c s []).bind fun s1 => (drun E ev all c2 s []).bind fun s2 => sameS s1 s2

/-- what belongs to a list of lists that is kept -/
noncomputable def famD (D : List Nat) (t : Nat) : Bool := @decide (4294967296 ≤ t ∧ memN (t % 4294967296) D = true) (Classical.propDecidable _)
theorem famD_iff (D : List Nat) (t : Nat) : famD D t = true ↔ 4294967296 ≤ t ∧ memN (t % 4294967296) D = true := by
  unfold famD
  exact @decide_eq_true_iff _ (Classical.propDecidable _)
def heldP (s : St) (H : Nat → Bool) : V → Bool
  | .ptr lv t _ => lv != s.lv || H t
  | v => pureC v
def heldC (s : St) (H : Nat → Bool) : V → Bool
  | .aref lv t _ => lv != s.lv || H t
  | v => pureC v
def canonV (s : St) (H : Nat → Bool) (v : V) : Option V := match v with
  | .aref lv t n => if lv = s.lv ∧ H t = false then tree (s.frz (.aref lv t n)) (.aref lv t n) else some v
  | .ptr lv t off => if lv = s.lv ∧ H t = false then none else some v
  | .oref lv t n => if lv = s.lv ∧ H t = false then none else some v
  | .mp lv t => if lv = s.lv ∧ H t = false then none else some v
  | .agg l => if (l.map V.viewC).all pureC then some v else none
  | .imp l => some v
  | .uq sz l => some v
  | .fn f caps => if caps.all (heldP s H) then some v else none
  | v => if pureC v.viewC then some v else none
def keepT (s : St) (H : Nat → Bool) : List Nat → Option (Nat → V)
  | [] => some e0
  | t :: l => match canonV s H (s.t t), keepT s H l with
    | some v, some f => some (upd f t v)
    | _, _ => none
def keepO (s : St) (H : Nat → Bool) : Ob → Option Ob
  | .box cs => (mapOpt (canonV s H) cs).map .box
  | .dir sz l => if (l.map V.flat).flatten.all (heldC s H) then some (.dir sz l) else none
  | ob => some ob
def keepB (s : St) (H : Nat → Bool) : List Nat → Option (Nat → Option Ob)
  | [] => some n0
  | t :: l => match (s.b t).bind (keepO s H), keepB s H l with
    | some ob, some f => some (upd f t (some ob))
    | _, _ => none
def hintAt (H : Hint) : List It → LoopHint
  | .blk i :: _ => (H.loops.find? (·.blk == i)).getD ⟨0, [], []⟩
  | _ => ⟨0, [], []⟩
/-- the lists of lists among some objects -/
def dirs (s : St) : List Nat → List Nat
  | [] => []
  | t :: l => match s.b t with
    | some (.dir _ _) => t :: dirs s l
    | _ => dirs s l
def FamOk (s : St) (H : Nat → Bool) (D : List Nat) : Prop := ∀ t, famD D t = true → ∀ ob, s.b t = some ob → ∃ sz l, ob = .dir sz l ∧ (l.map V.flat).flatten.all (heldC s H) = true
noncomputable def famB (D : List Nat) (b g : Nat → Option Ob) : Nat → Option Ob := fun t => if famD D t then b t else g t
/-- what is kept -/
noncomputable def heldH (objs D : List Nat) (t : Nat) : Bool := memN t objs || famD D t
open Classical in
noncomputable def canonD (s : St) (h : LoopHint) : List Nat → Option St
  | [] => match keepT s (heldH h.objs []) h.keep, keepB s (heldH h.objs []) h.objs with
    | some f, some g => some { s with t := f, b := g }
    | _, _ => none
  | d :: D => match keepT s (heldH h.objs (d :: D)) h.keep, keepB s (heldH h.objs (d :: D)) h.objs with
    | some f, some g => if FamOk s (heldH h.objs (d :: D)) (d :: D) then some { s with t := f, b := famB (d :: D) s.b g } else none
    | _, _ => none
noncomputable def canon (s : St) (h : LoopHint) : Option St := canonD s h (dirs s h.objs)
theorem famD_nil (t : Nat) : famD [] t = false := by
  cases h : famD [] t with
  | false => rfl
  | true => have := ((famD_iff _ _).1 h).2; cases this
theorem heldH_eq (objs D : List Nat) (t : Nat) : heldH objs D t = (memN t objs || famD D t) := by unfold heldH; rfl
theorem keepT_nil (s : St) (H : Nat → Bool) : keepT s H [] = some e0 := by unfold keepT; rfl
theorem keepB_nil (s : St) (H : Nat → Bool) : keepB s H [] = some n0 := by unfold keepB; rfl
theorem dirs_nil (s : St) : dirs s [] = [] := by unfold dirs; rfl
theorem canonV_uq (s : St) (H : Nat → Bool) (sz : Nat) (l : List V) : canonV s H (.uq sz l) = some (.uq sz l) := by unfold canonV; rfl
theorem keepO_map (s : St) (H : Nat → Bool) (l : List (V × V)) : keepO s H (.map l) = some (.map l) := by unfold keepO; rfl
theorem canonD_none (s : St) : canonD s ⟨0, [], []⟩ [] = some { s with t := e0, b := n0 } := by unfold canonD; rfl
theorem heldC_nil (s : St) (H : Nat → Bool) : heldC s H .nilp = true := by unfold heldC; rfl
theorem heldP_nil (s : St) (H : Nat → Bool) : heldP s H .nilp = true := by unfold heldP; rfl

noncomputable def stepI (E : Env) : List It → St → Out
  | [], s => match endV E.P s with
    | some (v, s1) => .done v s1.o
    | none => .fail
  | .blk _ :: k, s => .go k s
  | .ops [] _ :: k, s => .go k s
  | .ops (o :: l) all :: k, s =>
    let run : Out := match o.op with
      | .call { callee := .value f, args, argTypes } => callOp E o.dst f args argTypes (.ops l all :: k) s
      | _ => match evOp E.P (E.H s.f) o s with
        | some s' => .go (.ops l all :: k) s'
        | none => .fail
    match o.guard with
    | none => run
    | some (j, want) => match ((all[j]?).bind (·.dst)).map s.t with
      | some (.bool b) => if b = want then run else .go (.ops l all :: k) (s.putO o.dst (.tup []))
      | some (.tup []) => .go (.ops l all :: k) (s.putO o.dst (.tup []))
      | _ => .fail
  | .lp c :: k, s => match canon s (hintAt (E.H s.f) k) with
    | some s' => .go (.code c :: .lp c :: k) s'
    | none => .fail
  | .code c :: k, s => match c with
    | .skip => .go k s
    | .region id ops dr => if dr = false then .go (.ops ops.toList ops :: k) s else if drawOk2 E.P (E.H s.f) ops (orderOf (E.H s.f) id ops.size) (altOf (E.H s.f) id) then .draw ops (orderOf (E.H s.f) id ops.size) (altOf (E.H s.f) id) k s else .fail
    | .seq a b => .go (.code a :: .code b :: k) s
    | .cond x a b => match s.see E.P 0 x with
      | .bool v => if v then .go (.code a :: k) s else .go (.code b :: k) s
      | _ => .fail
    | .block i c => .go (.code c :: .blk i :: k) s
    | .loop c => .go (.lp c :: k) s
    | .exit i => match outOf i k with
      | some k' => .go k' s
      | none => .fail
    | .ret => .go [] s
    | _ => .fail

noncomputable def evI (E : Env) : Nat → List It → St → Option (V × List (Nat → Option Ob))
  | 0, _, _ => none
  | n + 1, its, s => match stepI E its s with
    | .go k s' => evI E n k s'
    | .done v o => some (v, o)
    | .fail => none
    | .draw ops c alt k s' => match dall E (evI E n) ops c alt s' with
      | some s2 => evI E n k s2
      | none => none
    | .call f args outer plain d k s' => match startS E f args outer with
      | none => none
      | some (k0, s0) => match evI E n k0 s0 with
        | none => none
        | some r => evI E n k (backS s' plain d r.1 r.2)

def RunLe (ev ev' : Run) : Prop := ∀ its s r, ev its s = some r → ev' its s = some r
theorem evCallV_mono {E : Env} {ev ev' : Run} (h : RunLe ev ev') {out : Out} {s' : St} (hs : evCallV E ev out = some s') : evCallV E ev' out = some s' := by
  cases out with
  | go k s1 => exact hs
  | done v o => exact hs
  | draw ops c alt k s1 => exact hs
  | fail => exact hs
  | call f args outer plain d k s1 =>
    unfold evCallV at hs ⊢
    dsimp only at hs ⊢
    split at hs
    · cases hs
    · split at hs
      · cases hs
      · rename_i h1
        rw [h _ _ _ h1]
        exact hs
theorem stepOV_mono {E : Env} {ev ev' : Run} (h : RunLe ev ev') {o : Oper} {s s' : St} (hs : stepOV E ev o s = some s') : stepOV E ev' o s = some s' := by
  unfold stepOV at hs ⊢
  split
  · rename_i hop
    rw [hop] at hs
    exact evCallV_mono h hs
  · rename_i hne
    split at hs
    · rename_i e; exact absurd e (hne _ _ _)
    · exact hs
theorem xval_mono {E : Env} {ev ev' : Run} (h : RunLe ev ev') {o : Oper} {s : St} {v : V} (hs : xval E ev o s = some v) : xval E ev' o s = some v := by
  unfold xval at hs ⊢
  split
  · rename_i hop
    rw [hop] at hs
    exact hs
  · rename_i f args tys hop
    rw [hop] at hs
    dsimp only at hs
    split
    · rename_i g vs sx h1 h2
      rw [h1, h2] at hs
      dsimp only at hs
      split
      · rename_i hc
        rw [if_pos hc] at hs
        split
        · rename_i hv; rw [hv] at hs; exact hs
        · rename_i hv
          rw [hv] at hs
          dsimp only at hs
          split
          · rename_i h0
            rw [h0] at hs
            obtain ⟨r, hr, he⟩ := Option.map_eq_some_iff.1 hs
            rw [h _ _ _ hr]
            exact congrArg some he
          · rename_i h0; rw [h0] at hs; exact hs
      · rename_i hc; rw [if_neg hc] at hs; exact hs
    · rename_i h1
      split at hs
      · rename_i e1 e2; exact absurd e2 (h1 _ _ _ e1)
      · exact hs
  · rename_i h1 h2
    split at hs
    · rename_i e; exact absurd e (h1 _ _)
    · rename_i e; exact absurd e (h2 _ _ _)
    · exact hs
theorem callVal_mono {d : Option Nat} {s : St} {x y : Option St} {v : V} (h : ∀ s1, x = some s1 → y = some s1) (hv : callVal d s x = some v) : callVal d s y = some v := by
  cases x with
  | none => cases hv
  | some s1 => rw [h s1 rfl]; exact hv
theorem lval_mono {E : Env} {ev ev' : Run} (h : RunLe ev ev') {o : Oper} {s : St} {v : V} (hv : lval E ev o s = some v) : lval E ev' o s = some v := by
  unfold lval at hv ⊢
  split
  · rename_i f args tys hop
    rw [hop] at hv
    dsimp only at hv
    by_cases hb : inOpt o.dst (E.H s.f).brw = true
    · rw [if_pos hb] at hv ⊢
      exact callVal_mono (fun s1 h1 => evCallV_mono h h1) hv
    rw [if_neg hb] at hv ⊢
    split at hv
    · rename_i hc
      rw [if_pos hc]
      exact callVal_mono (fun s1 h1 => evCallV_mono h h1) hv
    · cases hv
  · rename_i hne
    split at hv
    · rename_i e; exact absurd e (hne _ _ _)
    · exact hv
theorem still_mono {E : Env} {ev ev' : Run} (h : RunLe ev ev') {all : Array Oper} {i : Nat} {s : St} : ∀ {l : List (Nat × V)}, still E ev all i s l = true → still E ev' all i s l = true := by
  intro l
  induction l with
  | nil => intro _; rfl
  | cons p l ih =>
    intro hs
    obtain ⟨k, v⟩ := p
    unfold still at hs ⊢
    rw [Bool.and_eq_true] at hs ⊢
    refine ⟨?_, ih hs.2⟩
    have h1 := hs.1
    rw [Bool.or_eq_true] at h1 ⊢
    rcases h1 with h1 | h1
    · exact .inl h1
    · refine .inr ?_
      split at h1
      · split at h1
        · rename_i hl
          rw [if_pos (lval_mono h hl)]
        · cases h1
      · cases h1
theorem dstep_mono {E : Env} {ev ev' : Run} (h : RunLe ev ev') {all : Array Oper} {i : Nat} {s : St} {done : List (Nat × V)} {r} (hs : dstep E ev all i s done = some r) : dstep E ev' all i s done = some r := by
  unfold dstep at hs ⊢
  split
  · rename_i e; rw [e] at hs; exact hs
  · rename_i o e
    rw [e] at hs
    dsimp only at hs
    split
    · rename_i g; rw [g] at hs; exact hs
    · rename_i g; rw [g] at hs; exact hs
    · rename_i g
      rw [g] at hs
      dsimp only at hs
      by_cases hx : isX E.P (E.H s.f) o = true
      · rw [if_pos hx] at hs ⊢
        by_cases hd : (dynX E.P o s && inDst s o) = true
        · rw [if_pos hd] at hs ⊢
          obtain ⟨v, hv, he⟩ := Option.map_eq_some_iff.1 hs
          rw [xval_mono h hv]
          exact congrArg some he
        · rw [if_neg hd] at hs; cases hs
      · rw [if_neg hx] at hs ⊢
        by_cases hl : isL (E.H s.f) o = true
        · rw [if_pos hl] at hs ⊢
          by_cases hd : inDst s o = true
          · rw [if_pos hd] at hs ⊢
            obtain ⟨v, hv, he⟩ := Option.map_eq_some_iff.1 hs
            rw [lval_mono h hv]
            exact congrArg some he
          · rw [if_neg hd] at hs; cases hs
        · rw [if_neg hl] at hs ⊢
          split at hs
          · rename_i s1 h1
            rw [stepOV_mono h h1]
            dsimp only
            split at hs
            · rename_i hst
              rw [if_pos (still_mono h hst)]
              exact hs
            · cases hs
          · cases hs
theorem drun_mono {E : Env} {ev ev' : Run} (h : RunLe ev ev') {all : Array Oper} : ∀ {c : List Nat} {s : St} {done : List (Nat × V)} {r}, drun E ev all c s done = some r → drun E ev' all c s done = some r := by
  intro c
  induction c with
  | nil => intro s done r hs; exact hs
  | cons i c ih =>
    intro s done r hs
    obtain ⟨x, h1, h2⟩ := Option.bind_eq_some_iff.1 hs
    exact Option.bind_eq_some_iff.2 ⟨x, dstep_mono h h1, ih h2⟩
theorem dall_mono {E : Env} {ev ev' : Run} (h : RunLe ev ev') {all : Array Oper} {c : List Nat} {alt : Option (Nat × Nat × List Nat)} {s : St} {r : St} (hs : dall E ev all c alt s = some r) : dall E ev' all c alt s = some r := by
  unfold dall at hs ⊢
  split at hs
  · exact drun_mono h hs
  · obtain ⟨x, h1, h2⟩ := Option.bind_eq_some_iff.1 hs
    obtain ⟨y, h3, h4⟩ := Option.bind_eq_some_iff.1 h2
    exact Option.bind_eq_some_iff.2 ⟨x, drun_mono h h1, Option.bind_eq_some_iff.2 ⟨y, drun_mono h h3, h4⟩⟩
theorem RunLe.up {evs : Nat → Run} (hup : ∀ n, RunLe (evs n) (evs (n + 1))) {n m : Nat} (h : n ≤ m) : RunLe (evs n) (evs m) := by
  induction h with
  | refl => exact fun _ _ _ h => h
  | step _ ih => exact fun its s r hr => hup _ _ _ _ (ih _ _ _ hr)
/-- one run alone is asked for -/
theorem dstep_one {E : Env} {evs : Nat → Run} {ev : Run} (hup : ∀ n, RunLe (evs n) (evs (n + 1))) (hl : ∀ its s r, ev its s = some r → ∃ n, evs n its s = some r) {all : Array Oper} {i : Nat} {s : St} {done : List (Nat × V)} {r} (hs : dstep E ev all i s done = some r) : ∃ n, dstep E (evs n) all i s done = some r := by
  have hO : ∀ {o : Oper} {s1 : St}, stepOV E ev o s = some s1 → ∃ n, stepOV E (evs n) o s = some s1 := by
    intro o s1 h
    unfold stepOV at h
    split at h
    · rename_i f args tys hop
      have : ∀ n, stepOV E (evs n) o s = evCallV E (evs n) (callOp E o.dst f args tys [] s) := by intro n; unfold stepOV; rw [hop]
      simp only [this]
      cases hc : callOp E o.dst f args tys [] s with
      | go k s2 => rw [hc] at h; exact ⟨0, h⟩
      | done v o => rw [hc] at h; exact ⟨0, h⟩
      | draw _ _ _ _ _ => rw [hc] at h; exact ⟨0, h⟩
      | fail => rw [hc] at h; exact ⟨0, h⟩
      | call f args outer plain d k s2 =>
        rw [hc] at h
        unfold evCallV at h ⊢
        dsimp only at h ⊢
        split at h
        · cases h
        · split at h
          · cases h
          · rename_i h1
            obtain ⟨n, hn⟩ := hl _ _ _ h1
            exact ⟨n, by rw [hn]; exact h⟩
    · rename_i hne
      exact ⟨0, by
        unfold stepOV
        split
        · rename_i e; exact absurd e (hne _ _ _)
        · exact h⟩
  have hX : ∀ {o : Oper} {v : V}, xval E ev o s = some v → ∃ n, xval E (evs n) o s = some v := by
    intro o v h
    unfold xval at h
    split at h
    · rename_i hop
      exact ⟨0, by unfold xval; rw [hop]; exact h⟩
    · rename_i f args tys hop
      have : ∀ n, xval E (evs n) o s = match s.see E.P 0 f, s.args E.P (tys.toList.zip args.toList) with
        | .fn g [], some (vs, _) => if args.size = tys.size ∧ o.dst.all (fun d => decide (d < s.n)) then
            (match E.orc g vs with
            | some v => some v
            | none => match startS E g vs [] with
              | some (k0, s0) => (evs n k0 s0).map fun r => setl (setF E g o.dst s) r.1
              | none => none)
          else none
        | _, _ => none := by intro n; unfold xval; rw [hop]
      simp only [this]
      split at h
      · rename_i h1 h2
        split at h
        · rename_i hc
          split at h
          · rename_i hv; exact ⟨0, by rw [if_pos hc]; exact h⟩
          · rename_i hv
            split at h
            · rename_i h0
              obtain ⟨r, hr, he⟩ := Option.map_eq_some_iff.1 h
              obtain ⟨n, hn⟩ := hl _ _ _ hr
              exact ⟨n, by rw [if_pos hc]; rw [hn]; exact congrArg some he⟩
            · cases h
        · cases h
      · cases h
    · rename_i h1 h2
      exact ⟨0, by
        unfold xval
        split
        · rename_i e; exact absurd e (h1 _ _)
        · rename_i e; exact absurd e (h2 _ _ _)
        · exact h⟩
  have hC : ∀ {out : Out} {s1 : St}, evCallV E ev out = some s1 → ∃ n, evCallV E (evs n) out = some s1 := by
    intro out s1 h
    cases out with
    | go k s2 => exact ⟨0, h⟩
    | done v o => exact ⟨0, h⟩
    | draw _ _ _ _ _ => exact ⟨0, h⟩
    | fail => exact ⟨0, h⟩
    | call f args outer plain d k s2 =>
      unfold evCallV at h ⊢
      dsimp only at h ⊢
      split at h
      · cases h
      · split at h
        · cases h
        · rename_i h1
          obtain ⟨n, hn⟩ := hl _ _ _ h1
          exact ⟨n, by rw [hn]; exact h⟩
  have hL : ∀ {o : Oper} {s : St} {v : V}, lval E ev o s = some v → ∃ n, lval E (evs n) o s = some v := by
    intro o s v h
    unfold lval at h
    split at h
    · rename_i f args tys hop
      by_cases hb : inOpt o.dst (E.H s.f).brw = true
      · rw [if_pos hb] at h
        have hcv := h
        unfold callVal at h
        split at h
        · rename_i s1 h1
          obtain ⟨n, hn⟩ := hC h1
          refine ⟨n, ?_⟩
          unfold lval
          rw [hop]
          dsimp only
          rw [if_pos hb, hn, ← h1]
          exact hcv
        · cases h
      rw [if_neg hb] at h
      split at h
      · rename_i hcond
        have hcv := h
        unfold callVal at h
        split at h
        · rename_i s1 h1
          obtain ⟨n, hn⟩ := hC h1
          refine ⟨n, ?_⟩
          unfold lval
          rw [hop]
          dsimp only
          rw [if_neg hb, if_pos hcond, hn, ← h1]
          exact hcv
        · cases h
      · cases h
    · rename_i hne
      refine ⟨0, ?_⟩
      unfold lval
      split
      · rename_i e; exact absurd e (hne _ _ _)
      · exact h
  have hSt : ∀ {s : St} {l : List (Nat × V)}, still E ev all i s l = true → ∃ n, still E (evs n) all i s l = true := by
    intro s l
    induction l with
    | nil => intro _; exact ⟨0, rfl⟩
    | cons p l ih =>
      intro h
      obtain ⟨k, v⟩ := p
      unfold still at h
      rw [Bool.and_eq_true] at h
      obtain ⟨n, hn⟩ := ih h.2
      have h1 := h.1
      rw [Bool.or_eq_true] at h1
      rcases h1 with h1 | h1
      · refine ⟨n, ?_⟩
        unfold still
        rw [h1, hn]
        rfl
      · split at h1
        · rename_i o ho
          split at h1
          · rename_i hlv
            obtain ⟨m, hm⟩ := hL hlv
            refine ⟨max n m, ?_⟩
            unfold still
            rw [still_mono (RunLe.up hup (Nat.le_max_left n m)) hn, ho]
            dsimp only
            rw [if_pos (lval_mono (RunLe.up hup (Nat.le_max_right n m)) hm)]
            simp
          · cases h1
        · cases h1
  unfold dstep at hs
  split at hs
  · cases hs
  · rename_i o e
    have : ∀ n, dstep E (evs n) all i s done = match guardS all o s with
      | none => none
      | some false => some (s.putO o.dst (.tup []), done)
      | some true =>
        if isX E.P (E.H s.f) o then (if dynX E.P o s && inDst s o then (xval E (evs n) o s).map fun v => (s.setX (E.H s.f) o v, done) else none)
        else if isL (E.H s.f) o then (if inDst s o then (lval E (evs n) o s).map fun v => (s.setX (E.H s.f) o v, (i, v) :: done) else none)
        else match stepOV E (evs n) o s with
          | some s1 => if still E (evs n) all i s1 done then some (s1, done) else none
          | none => none := by intro n; unfold dstep; rw [e]
    simp only [this]
    split at hs
    · cases hs
    · exact ⟨0, hs⟩
    · by_cases hx : isX E.P (E.H s.f) o = true
      · simp only [if_pos hx] at hs ⊢
        by_cases hd : (dynX E.P o s && inDst s o) = true
        · simp only [if_pos hd] at hs ⊢
          obtain ⟨v, hv, he⟩ := Option.map_eq_some_iff.1 hs
          obtain ⟨n, hn⟩ := hX hv
          exact ⟨n, by rw [hn]; exact congrArg some he⟩
        · rw [if_neg hd] at hs; cases hs
      · simp only [if_neg hx] at hs ⊢
        by_cases hl' : isL (E.H s.f) o = true
        · simp only [if_pos hl'] at hs ⊢
          by_cases hd : inDst s o = true
          · simp only [if_pos hd] at hs ⊢
            obtain ⟨v, hv, he⟩ := Option.map_eq_some_iff.1 hs
            obtain ⟨n, hn⟩ := hL hv
            exact ⟨n, by rw [hn]; exact congrArg some he⟩
          · rw [if_neg hd] at hs; cases hs
        · simp only [if_neg hl'] at hs ⊢
          split at hs
          · rename_i s1 h1
            obtain ⟨n, hn⟩ := hO h1
            split at hs
            · rename_i hst
              obtain ⟨m, hm⟩ := hSt hst
              refine ⟨max n m, ?_⟩
              rw [stepOV_mono (RunLe.up hup (Nat.le_max_left n m)) hn]
              dsimp only
              rw [if_pos (still_mono (RunLe.up hup (Nat.le_max_right n m)) hm)]
              exact hs
            · cases hs
          · cases hs
theorem drun_one {E : Env} {evs : Nat → Run} {ev : Run} (hup : ∀ n, RunLe (evs n) (evs (n + 1))) (hl : ∀ its s r, ev its s = some r → ∃ n, evs n its s = some r) {all : Array Oper} : ∀ {c : List Nat} {s : St} {done : List (Nat × V)} {r}, drun E ev all c s done = some r → ∃ n, drun E (evs n) all c s done = some r := by
  intro c
  induction c with
  | nil => intro s done r h; exact ⟨0, h⟩
  | cons i c ih =>
    intro s done r h
    obtain ⟨x, h1, h2⟩ := Option.bind_eq_some_iff.1 h
    obtain ⟨n, hn⟩ := dstep_one hup hl h1
    obtain ⟨m, hm⟩ := ih h2
    exact ⟨max n m, Option.bind_eq_some_iff.2 ⟨x, dstep_mono (RunLe.up hup (Nat.le_max_left n m)) hn, drun_mono (RunLe.up hup (Nat.le_max_right n m)) hm⟩⟩

theorem dall_one {E : Env} {evs : Nat → Run} {ev : Run} (hup : ∀ n, RunLe (evs n) (evs (n + 1))) (hl : ∀ its s r, ev its s = some r → ∃ n, evs n its s = some r) {all : Array Oper} {c : List Nat} {alt : Option (Nat × Nat × List Nat)} {s : St} {r : St} (h : dall E ev all c alt s = some r) : ∃ n, dall E (evs n) all c alt s = some r := by
  unfold dall at h ⊢
  split at h
  · exact drun_one hup hl h
  · obtain ⟨x, h1, h2⟩ := Option.bind_eq_some_iff.1 h
    obtain ⟨y, h3, h4⟩ := Option.bind_eq_some_iff.1 h2
    obtain ⟨n, hn⟩ := drun_one hup hl h1
    obtain ⟨m, hm⟩ := drun_one hup hl h3
    exact ⟨max n m, Option.bind_eq_some_iff.2 ⟨x, drun_mono (RunLe.up hup (Nat.le_max_left n m)) hn, Option.bind_eq_some_iff.2 ⟨y, drun_mono (RunLe.up hup (Nat.le_max_right n m)) hm, h4⟩⟩⟩
theorem evI_mono (E : Env) : ∀ n its s r, evI E n its s = some r → evI E (n + 1) its s = some r := by
  intro n
  induction n with
  | zero => intro its s r h; simp [evI] at h
  | succ n ih =>
    intro its s r h
    rw [evI] at h ⊢
    cases hs : stepI E its s with
    | go k s' => rw [hs] at h; exact ih _ _ _ h
    | done v o => rw [hs] at h; exact h
    | fail => rw [hs] at h; exact h
    | draw ops c alt k s' =>
      rw [hs] at h
      dsimp only at h ⊢
      cases h0 : dall E (evI E n) ops c alt s' with
      | none => rw [h0] at h; cases h
      | some s2 =>
        rw [h0] at h
        rw [dall_mono (fun its s r hr => ih its s r hr) h0]
        exact ih _ _ _ h
    | call f args outer plain d k s' =>
      rw [hs] at h
      dsimp only at h ⊢
      cases h0 : startS E f args outer with
      | none => rw [h0] at h; exact h
      | some x =>
        obtain ⟨k0, s0⟩ := x
        rw [h0] at h
        dsimp only at h ⊢
        cases h1 : evI E n k0 s0 with
        | none => rw [h1] at h; cases h
        | some x =>
          rw [h1] at h
          rw [ih _ _ _ h1]
          exact ih _ _ _ h
theorem evI_le (E : Env) {n m : Nat} (h : n ≤ m) {its s r} (hr : evI E n its s = some r) : evI E m its s = some r := by
  induction h with
  | refl => exact hr
  | step _ ih => exact evI_mono E _ _ _ _ ih

open Classical in
/-- what a run comes to, however many steps it takes -/
noncomputable def lim (E : Env) (its : List It) (s : St) : Option (V × List (Nat → Option Ob)) :=
  if h : ∃ r, ∃ n, evI E n its s = some r then some h.choose else none
noncomputable def run (E : Env) (f : Nat) (args : List V) (outer : List (Nat → Option Ob)) : Option (V × List (Nat → Option Ob)) :=
  match startS E f args outer with
  | some x => lim E x.1 x.2
  | none => none

theorem lim_iff {E : Env} {its s r} : lim E its s = some r ↔ ∃ n, evI E n its s = some r := by
  unfold lim
  constructor
  · intro h
    split at h
    · rename_i hx
      obtain rfl := Option.some.inj h
      exact hx.choose_spec
    · cases h
  · rintro ⟨n, hn⟩
    have hx : ∃ r, ∃ n, evI E n its s = some r := ⟨r, n, hn⟩
    rw [dif_pos hx]
    obtain ⟨m, hm⟩ := hx.choose_spec
    have h1 := evI_le E (Nat.le_max_left n m) hn
    have h2 := evI_le E (Nat.le_max_right n m) hm
    rw [h1] at h2
    exact h2.symm
theorem lim_ext {E : Env} {its s its' s'} (h : ∀ r, (∃ n, evI E n its s = some r) ↔ ∃ n, evI E n its' s' = some r) : lim E its s = lim E its' s' := by
  cases hx : lim E its s with
  | some r => exact ((lim_iff.2 ((h r).1 (lim_iff.1 hx)))).symm
  | none =>
    cases hy : lim E its' s' with
    | none => rfl
    | some r => rw [lim_iff.2 ((h r).2 (lim_iff.1 hy))] at hx; cases hx

/-- the equation of a step -/
noncomputable def Out.lim (E : Env) : Out → Option (V × List (Nat → Option Ob))
  | .go k s => Ev.lim E k s
  | .done v o => some (v, o)
  | .fail => none
  | .draw ops c alt k s => (dall E (Ev.lim E) ops c alt s).bind fun s2 => Ev.lim E k s2
  | .call f args outer plain d k s => (run E f args outer).bind fun r => Ev.lim E k (backS s plain d r.1 r.2)
theorem lim_step (E : Env) (its : List It) (s : St) : lim E its s = (stepI E its s).lim E := by
  cases hs : stepI E its s with
  | go k s' =>
    refine lim_ext fun r => ⟨?_, ?_⟩
    · rintro ⟨n, hn⟩
      cases n with
      | zero => simp [evI] at hn
      | succ n => rw [evI, hs] at hn; exact ⟨n, hn⟩
    · rintro ⟨n, hn⟩
      exact ⟨n + 1, by rw [evI, hs]; exact hn⟩
  | done v o => exact lim_iff.2 ⟨1, by rw [evI, hs]⟩
  | fail =>
    cases hx : lim E its s with
    | none => rfl
    | some r =>
      obtain ⟨n, hn⟩ := lim_iff.1 hx
      cases n with
      | zero => simp [evI] at hn
      | succ n => rw [evI, hs] at hn; cases hn
  | draw ops c alt k s' =>
    have hup : ∀ n, RunLe (evI E n) (evI E (n + 1)) := fun n its s r => evI_mono E n its s r
    show _ = (dall E (Ev.lim E) ops c alt s').bind fun s2 => Ev.lim E k s2
    have h1 : ∀ s2, dall E (Ev.lim E) ops c alt s' = some s2 ↔ ∃ n, dall E (evI E n) ops c alt s' = some s2 := fun s2 =>
      ⟨fun h => dall_one hup (fun its s r h => lim_iff.1 h) h, fun ⟨n, hn⟩ => dall_mono (fun its s r h => lim_iff.2 ⟨n, h⟩) hn⟩
    cases h2 : dall E (Ev.lim E) ops c alt s' with
    | none =>
      cases hx : Ev.lim E its s with
      | none => rfl
      | some r =>
        obtain ⟨n, hn⟩ := lim_iff.1 hx
        cases n with
        | zero => simp [evI] at hn
        | succ n =>
          rw [evI, hs] at hn
          dsimp only at hn
          split at hn
          · rename_i s2 h3
            rw [(h1 s2).2 ⟨n, h3⟩] at h2
            cases h2
          · cases hn
    | some s2 =>
      obtain ⟨m, hm⟩ := (h1 s2).1 h2
      refine lim_ext fun r => ⟨?_, ?_⟩
      · rintro ⟨n, hn⟩
        cases n with
        | zero => simp [evI] at hn
        | succ n =>
          rw [evI, hs] at hn
          dsimp only at hn
          split at hn
          · rename_i s3 h3
            have := (h1 s3).2 ⟨n, h3⟩
            rw [h2] at this
            obtain rfl := Option.some.inj this
            exact ⟨n, hn⟩
          · cases hn
      · rintro ⟨n, hn⟩
        refine ⟨max n m + 1, ?_⟩
        rw [evI, hs]
        dsimp only
        rw [dall_mono (RunLe.up hup (Nat.le_max_right n m)) hm]
        exact evI_le E (Nat.le_max_left n m) hn
  | call f args outer plain d k s' =>
    show _ = (run E f args outer).bind _
    unfold run
    cases h0 : startS E f args outer with
    | none =>
      cases hx : lim E its s with
      | none => rfl
      | some r =>
        obtain ⟨n, hn⟩ := lim_iff.1 hx
        cases n with
        | zero => simp [evI] at hn
        | succ n => rw [evI, hs] at hn; dsimp only at hn; rw [h0] at hn; cases hn
    | some x =>
      obtain ⟨k0, s0⟩ := x
      dsimp only
      cases h1 : lim E k0 s0 with
      | none =>
        cases hx : lim E its s with
        | none => rfl
        | some r =>
          obtain ⟨n, hn⟩ := lim_iff.1 hx
          cases n with
          | zero => simp [evI] at hn
          | succ n =>
            rw [evI, hs] at hn
            dsimp only at hn
            rw [h0] at hn
            dsimp only at hn
            cases h2 : evI E n k0 s0 with
            | none => rw [h2] at hn; cases hn
            | some y => rw [lim_iff.2 ⟨n, h2⟩] at h1; cases h1
      | some y =>
        obtain ⟨m, hm⟩ := lim_iff.1 h1
        refine lim_ext fun r => ⟨?_, ?_⟩
        · rintro ⟨n, hn⟩
          cases n with
          | zero => simp [evI] at hn
          | succ n =>
            rw [evI, hs] at hn
            dsimp only at hn
            rw [h0] at hn
            dsimp only at hn
            cases h2 : evI E n k0 s0 with
            | none => rw [h2] at hn; cases hn
            | some z =>
              rw [h2] at hn
              have : z = y := by
                have e1 := evI_le E (Nat.le_max_left n m) h2
                have e2 := evI_le E (Nat.le_max_right n m) hm
                rw [e1] at e2
                exact Option.some.inj e2
              subst this
              exact ⟨n, hn⟩
        · rintro ⟨n, hn⟩
          refine ⟨max n m + 1, ?_⟩
          rw [evI, hs]
          dsimp only
          rw [h0]
          dsimp only
          rw [evI_le E (Nat.le_max_right n m) hm]
          exact evI_le E (Nat.le_max_left n m) hn
/-- a round of a loop -/
noncomputable def iter (E : Env) (c : Code) (k : List It) (s : St) : Option (V × List (Nat → Option Ob)) := lim E (.code c :: .lp c :: k) s

end Go.Ev
