/- A pure reading of the machine's programs: values as trees, lists that grow, variables in memory by their place; what a function computes by it. No statement of the seat is proved here. -/
import Derived.Calls
import Derived.Attr
import Derived.KernelRfl
set_option linter.unusedVariables false
set_option linter.unusedSimpArgs false
namespace Go.aB
open Go
inductive V where
 | undef
 | bool (b:Bool)
 | int (k:IntKind) (n:Int)
 | str (s:ByteArray)
 | slc (own:Bool) (sz:Nat) (l:List V)
 | uq (sz:Nat) (l:List V)
 | nw (l:List V)
 | agg (l:List V)
 | tup (l:List V)
 | ptr (lv t off:Nat)
 | imp (l:List V)
 | gA (lv t i sz:Nat)
 | bS (lv t n:Nat)
 | hn (lv t n:Nat)
 | ho (lv t n:Nat)
 | mp (lv t:Nat)
 | fn (f:Nat) (bg:List V)
 | dD
 | bK
 deriving Inhabited
inductive ax where
 | box (cells:List V)
 | arr (iv:Bool) (sz:Nat) (l:List V)
 | map (es:List (V×V))
 | lJ (sz:Nat) (l:List V)
 | dir (sz:Nat) (l:List V)
structure ab where
 t:Nat→V
 b:Nat→Option ax
 o:List (Nat→Option ax)
 r:Array ResultVar
 f:Nat
 n:Nat
structure wh where
 eZ:Nat
 mq:List Nat
 objs:List Nat
structure Hint where
 take:List Nat
 make:List Nat
 loops:List wh
 deep:List Nat:=[]
 FB:List (Nat×List Nat):=[]
 uniq:List Nat:=[]
 c2:List Nat:=[]
 ro:List Nat:=[]
 fa:List Nat:=[]
 own:List Nat:=[]
 fI:List Nat:=[]
 iL:List Nat:=[]
structure Env where
 P:Program
 H:Nat→Hint
 bm:Nat→List V→Option V
def ae {α:Type} (f:Nat→α) (d:Nat) (v:α):Nat→α:=fun t=>if t=d then v else f t
theorem qK {α:Type} (f:Nat→α) (d t:Nat) (v:α):ae f d v t=if t=d then v else f t:=rfl
def bH:Nat→V:=fun _=>.undef
def bk:Nat→Option ax:=fun _=>none
theorem L8 (t:Nat):bH t=.undef:=rfl
theorem L9 (t:Nat):bk t=none:=rfl
def ab.lv (s:ab):Nat:=s.o.length
def bV (t:Nat):Nat→List (Nat→Option ax)→Option ax
 | _,[]=>none
 | lv,f::o=>if lv=o.length then f t else bV t lv o
def cP (t:Nat) (ob:ax):Nat→List (Nat→Option ax)→List (Nat→Option ax)
 | _,[]=>[]
 | lv,f::o=>if lv=o.length then ae f t (some ob)::o else f::cP t ob lv o
def ab.ob (s:ab) (lv t:Nat):Option ax:=bV t lv (s.b::s.o)
def ab.c6 (s:ab) (lv t:Nat) (ob:ax):ab:=
 if lv=s.o.length then {s with b:=ae s.b t (some ob)}else {s with o:=cP t ob lv s.o}
def V.flat:V→List V
 | .agg l=>l
 | v=>[v]
def V.cM:V→V
 | .slc _ sz l=>.slc false sz l
 | .uq _ _=>.undef
 | .nw _=>.undef
 | v=>v
def V.view:V→V
 | .slc _ sz l=>.slc false sz l
 | .uq _ _=>.undef
 | .nw _=>.undef
 | .agg l=>.agg (l.map V.cM)
 | .tup l=>.undef
 | v=>v
def V.cI:V→V
 | .uq sz l=>.slc false sz (l.attach.map fun x=>V.cI x.1)
 | .agg l=>.agg (l.attach.map fun x=>V.cI x.1)
 | .undef=>.undef
 | .bool b=>.bool b
 | .int k n=>.int k n
 | .str s=>.str s
 | .slc o sz l=>.slc o sz l
 | .nw l=>.nw l
 | .tup l=>.tup l
 | .ptr a b c=>.ptr a b c
 | .imp l=>.imp l
 | .gA a b c d=>.gA a b c d
 | .bS a b c=>.bS a b c
 | .hn a b c=>.hn a b c
 | .ho a b c=>.ho a b c
 | .mp a b=>.mp a b
 | .fn f c=>.fn f c
 | .dD=>.dD
 | .bK=>.bK
 termination_by v=>SizeOf.sizeOf v
 decreasing_by
 ·have:=List.sizeOf_lt_of_mem x.2;simp;omega
 ·have:=List.sizeOf_lt_of_mem x.2;simp;omega
theorem yJ (sz:Nat) (l:List V):(V.uq sz l).cI=.slc false sz (l.map V.cI):=by rw[V.cI,List.attach_map_val (f:=V.cI)]
theorem FC (l:List V):(V.agg l).cI=.agg (l.map V.cI):=by rw[V.cI,List.attach_map_val (f:=V.cI)]
def V.nN:V→V
 | .uq sz l=>.slc true sz (l.map V.cI)
 | v=>v
def V.settle:V→V
 | .uq sz l=>.slc true sz (l.map V.cI)
 | .agg l=>.agg (l.map V.nN)
 | v=>v
def iw (b:Bool) (v:V):V:=if b then v.settle else v
def pack (agg:Bool) (l:List V):V:=if agg then .agg l else l.headD .undef
def bM:V→Bool
 | .bool _ | .int .. | .str _ | .slc false _ _ | .dD | .bK=>true
 | .fn _ []=>true
 | _=>false
def nO:V→Bool
 | .uq _ _=>true
 | v=>bM v
def jt:V→Bool
 | .bS ..=>true
 | v=>bM v
def V.rU:V→V
 | .uq sz l=>.uq sz l
 | v=>v.cM
def V.hand:V→V
 | .uq sz l=>.uq sz l
 | .agg l=>.agg (l.map V.rU)
 | v=>v.view
def V.free:V→Bool
 | .uq _ l=>l.attach.all fun x=>V.free x.1
 | .agg l=>l.attach.all fun x=>V.free x.1
 | .tup l=>l.attach.all fun x=>V.free x.1
 | .slc false _ []=>true
 | .bool _=>true
 | .int _ _=>true
 | .str _=>true
 | .dD=>true
 | .bK=>true
 | _=>false
 termination_by v=>SizeOf.sizeOf v
 decreasing_by
 ·have:=List.sizeOf_lt_of_mem x.2;simp;omega
 ·have:=List.sizeOf_lt_of_mem x.2;simp;omega
 ·have:=List.sizeOf_lt_of_mem x.2;simp;omega
def V.je:V→Bool
 | .uq _ _=>true
 | v=>bM v.cM
def mr:V→Bool
 | .undef | .agg _ | .tup _ | .nw _=>false
 | _=>true
def fS (l:Nat):V→Bool
 | .ptr lv _ _ | .gA lv _ _ _ | .bS lv _ _ | .hn lv _ _ | .ho lv _ _ | .mp lv _=>decide (lv≤l)
 | .fn _ bg=>bg.all fun c=>match c with
   | .ptr lv _ _=>decide (lv≤l)
   | c=>bM c
 | .agg _ | .tup _=>false
 | _=>true
def tree (s:ab):V→Option V
 | .bS lv t n=>match s.ob lv t with
   | some (.arr true sz l)=>if l.length=n then some (.slc false sz l)else none
   | _=>none
 | .agg l=>if(l.map V.cM).all bM then some (.agg (l.map V.cM))else none
 | v=>if bM v.cM then some v.cM else none
def ab.c2 (s:ab):V→ab
 | .bS lv t _=>match s.ob lv t with
   | some (.arr false sz l)=>s.c6 lv t (.arr true sz l)
   | _=>s
 | _=>s
section
variable (P:Program)
def isAgg (ty:TypeId):Bool:=match P.underlying ty with
 | some (.struct _) | some (.array _ _)=>true
 | _=>false
def hp (ty:TypeId):Bool:=match P.underlying ty with
 | some (.slice _)=>true
 | _=>false
def isStr (ty:TypeId):Bool:=match P.underlying ty with
 | some .string=>true
 | _=>false
def az (ty:TypeId):Nat:=match P.info? ty,P.underlying ty with
 | some i,some _=>i.size
 | _,_=>0
def elemOf (ty:TypeId):TypeId:=match P.underlying ty with
 | some (.slice e)=>e
 | some (.array _ e)=>e
 | _=>0
def c3 (ty:TypeId):Nat:=az P (elemOf P ty)
def yK:Nat→TypeId→List V
 | 0,_=>[.undef]
 | n+1,ty=>match P.underlying ty with
   | some .bool=>[.bool false]
   | some (.int k)=>[.int k 0]
   | some .string=>[.str ⟨#[]⟩]
   | some (.slice e)=>[.slc true (az P e) []]
   | some (.pointer _)=>[.dD]
   | some (.func ..)=>[.bK]
   | some (.struct bW)=>(bW.toList.map fun f=>yK n f.type).flatten
   | some (.array k e)=>(List.replicate k (yK n e)).flatten
   | _=>[.undef]
def agree:V→Value→Bool
 | .bool a,.bool b=>a==b
 | .int k a,.int bI b=>k==bI&&a==b
 | .str a,.string b=>a.data.isEmpty&&b.data.isEmpty
 | .slc true _ [],.slice none 0 0=>true
 | .dD,.pointer none=>true
 | .bK,.nilFunc=>true
 | _,_=>false
def tQ:List V→List Value→Bool
 | [],[]=>true
 | a::l,b::m=>agree a b&&tQ l m
 | _,_=>false
def Ma (ju:Bool):Value→Bool
 | .agg _=>ju
 | .tuple _=>false
 | _=>!ju
def zero (ty:TypeId):Option (List V):=match (P.info? ty).bind (·.zero)with
 | some z=>if tQ (yK P 9 ty) z.cells.toList&&Ma (isAgg P ty) z then some (yK P 9 ty)else none
 | none=>none
def eB (ty:TypeId):V:=(pack (isAgg P (elemOf P ty)) ((zero P (elemOf P ty)).getD [])).view
def oW (ty:TypeId):Value→V
 | .bool b=>.bool b
 | .int k n=>.int k n
 | .string s=>.str s
 | .slice none 0 0=>.slc true (c3 P ty) []
 | .pointer none=>.dD
 | .nilFunc=>.bK
 | _=>.undef
def rd (t:Nat→V) (ty:TypeId):Operand→V
 | .tmp i=>t i
 | .const v=>oW P ty v
 | .func f=>.fn f []
 | .global _=>.undef
end
def arith (op:BinOp) (k:IntKind) (a b:Int):Option V:=
 match op with
 | .add=>some (.int k (k.wrap (a+b)))
 | .sub=>some (.int k (k.wrap (a-b)))
 | .mul=>some (.int k (k.wrap (a*b)))
 | .quo=>if b=0 then none else some (.int k (k.wrap (a.tdiv b)))
 | .rem=>if b=0 then none else some (.int k (a.tmod b))
 | .and=>some (.int k (k.wrap ((BitVec.ofInt k.bits a &&& BitVec.ofInt k.bits b).toNat:Int)))
 | .or=>some (.int k (k.wrap ((BitVec.ofInt k.bits a ||| BitVec.ofInt k.bits b).toNat:Int)))
 | .xor=>some (.int k (k.wrap ((BitVec.ofInt k.bits a ^^^ BitVec.ofInt k.bits b).toNat:Int)))
 | .eql=>some (.bool (a==b))
 | .neq=>some (.bool (a != b))
 | .lss=>some (.bool (decide (a<b)))
 | .leq=>some (.bool (decide (a≤b)))
 | .gtr=>some (.bool (decide (a>b)))
 | .geq=>some (.bool (decide (a≥b)))
 | _=>none
def yL (op:BinOp) (k:IntKind) (a b:Int):Option V:=
 if b<0 then none else match op with
 | .shl=>some (.int k (k.wrap (a*2^(min b.toNat k.bits))))
 | .shr=>some (.int k (a.fdiv (2^(min b.toNat k.bits))))
 | _=>none
def yM (op:BinOp) (a b:ByteArray):Option V:=
 match op with
 | .add=>if((a.size+b.size:Nat):Int)>9223372036854775807 then none else some (.str (a++b))
 | .eql=>some (.bool (a.toList==b.toList))
 | .neq=>some (.bool (!(a.toList==b.toList)))
 | .lss=>some (.bool (Op.bytesLess a.toList b.toList))
 | .geq=>some (.bool (!Op.bytesLess a.toList b.toList))
 | _=>none
def kU:TypeDesc→V→V→Option Bool
 | .int _,.int k a,.int bI b=>if k=bI then some (a==b)else none
 | .bool,.bool a,.bool b=>some (a==b)
 | .string,.str a,.str b=>some (a.toList==b.toList)
 | _,_,_=>none
def ku (P:Program):Nat→List Field→List V→List V→Option Bool
 | _,[],[],[]=>some true
 | n,f::bW,a::l,b::m=>if f.offset=n∧(f.name== "_")=false then match P.underlying f.type with
   | some b6=>match kU b6 a b,ku P (n+1) bW l m with
     | some x,some y=>some (x&&y)
     | _,_=>none
   | none=>none
   else none
 | _,_,_,_=>none
def mu (b6:TypeDesc):List V→List V→Option Bool
 | [],[]=>some true
 | a::l,b::m=>match kU b6 a b,mu b6 l m with
   | some x,some y=>some (x&&y)
   | _,_=>none
 | _,_=>none
def ea (P:Program) (t:TypeId) (x y:V):Option Bool:=match P.underlying t with
 | some (.struct bW)=>if P.stoodInHeld t=false then match x,y with
   | .agg l,.agg m=>ku P 0 bW.toList l m
   | _,_=>none
   else none
 | some (.array n e)=>match x,y with
   | .agg l,.agg m=>if l.length=n∧az P e=1 then match P.underlying e with
     | some b6=>mu b6 l m
     | none=>none
     else none
   | _,_=>none
 | some b6=>kU b6 x y
 | none=>none
def wi (P:Program) (t:TypeId) (op:BinOp) (x y:V):Option V:=
 match x,y with
 | .int k a,.int bI b=>match op with
   | .shl | .shr=>yL op k a b
   | _=>if k=bI then arith op k a b else none
 | .str a,.str b=>yM op a b
 | .bool a,.bool b=>match op with
   | .eql=>(ea P t (.bool a) (.bool b)).map .bool
   | .neq=>(ea P t (.bool a) (.bool b)).map fun x=>.bool (!x)
   | _=>none
 | .agg a,.agg b=>if P.eqGuardType P.depth t=false then match op with
   | .eql=>(ea P t (.agg a) (.agg b)).map .bool
   | .neq=>(ea P t (.agg a) (.agg b)).map fun x=>.bool (!x)
   | _=>none
   else none
 | _,_=>none
def yN:Operand→Bool
 | .const (.slice none 0 0)=>true
 | _=>false
def wj (P:Program) (op:BinOp) (ty:TypeId):V→Option V
 | .slc _ _ (_::_) | .bS ..=>if hp P ty then match op with
   | .eql=>some (.bool false)
   | .neq=>some (.bool true)
   | _=>none
   else none
 | _=>none
def V.ite (c:Bool):V→V→V
 | .bool a,.bool b=>.bool (if c then a else b)
 | .int k a,.int bI b=>if k=bI then .int k (if c then a else b)else .undef
 | .str a,.str b=>.str (if c then a else b)
 | x,y=>if c then x else y
inductive cJ where
 | code (c:Code)
 | ops (l:List Oper) (all:Array Oper)
 | eZ (id:Nat)
 | jf (c:Code)
def jU (id:Nat):List cJ→Option (List cJ)
 | []=>none
 | .eZ i::k=>if i=id then some k else jU id k
 | _::k=>jU id k
def eg (l:List V) (off:Nat) (c:List V):List V:=l.take off++c++l.drop (off+c.length)
def aG:Nat→List Nat→Bool
 | _,[]=>false
 | n,a::l=>if n=a then true else aG n l
def ab.put (s:ab) (d:Nat) (v:V):ab:={s with t:=ae s.t d v}
def ab.drop (s:ab) (x:Operand):ab:=match x with
 | .tmp i=>s.put i (s.t i).view
 | _=>s
def ab.all (s:ab) (P:Program) (ty:TypeId) (x:Operand):V:=match x with
 | .tmp i=>s.t i
 | x=>rd P s.t ty x
def ab.aM (s:ab) (P:Program) (ty:TypeId) (x:Operand):V:=match x with
 | .tmp i=>(s.t i).view
 | x=>(rd P s.t ty x).view
def ab.tree (s:ab) (P:Program) (ty:TypeId) (x:Operand):Option (V×ab):=
 let bb:=s.c2 (s.aM P ty x)
 (aB.tree bb (s.aM P ty x)).map (·,bb)
def e0 {α β:Type} (f:α→Option β):List α→Option (List β)
 | []=>some []
 | a::l=>match f a,e0 f l with
   | some b,some m=>some (b::m)
   | _,_=>none
def ab.trees (P:Program):ab→List (TypeId×Operand)→Option (List V×ab)
 | s,[]=>some ([],s)
 | s,(ty,x)::l=>match s.tree P ty x with
   | some (v,s1)=>match ab.trees P s1 l with
     | some (vs,s2)=>some (v::vs,s2)
     | none=>none
   | none=>none
def isRef:V→Bool
 | .ptr .. | .gA .. | .bS .. | .hn .. | .ho .. | .mp ..=>true
 | .fn _ bg=>!bg.isEmpty
 | _=>false
def ab.arg (s:ab) (P:Program) (ty:TypeId) (x:Operand):Option (V×ab):=match s.aM P ty x with
 | .ptr lv t off=>some (.ptr lv t off,s)
 | .mp lv t=>some (.mp lv t,s)
 | .fn f c=>some (.fn f c,s)
 | _=>s.tree P ty x
def ab.args (P:Program):ab→List (TypeId×Operand)→Option (List V×ab)
 | s,[]=>some ([],s)
 | s,(ty,x)::l=>match s.arg P ty x with
   | some (v,s1)=>match ab.args P s1 l with
     | some (vs,s2)=>some (v::vs,s2)
     | none=>none
   | none=>none
def qL (P:Program) (kt:TypeId) (k:V):List (V×V)→Option (Option V)
 | []=>some none
 | e::es=>match ea P kt k e.1 with
   | some true=>some (some e.2)
   | some false=>qL P kt k es
   | none=>none
def qM (P:Program) (kt:TypeId) (k v:V):List (V×V)→Option (List (V×V))
 | []=>some [(k,v)]
 | e::es=>match ea P kt k e.1 with
   | some true=>some ((k,v)::es)
   | some false=>(qM P kt k v es).map (e::·)
   | none=>none
def oX:Option V→Option (Option Int)
 | none=>some none
 | some (.int _ n)=>some (some n)
 | _=>none
def gX (s:ByteArray):List V:=s.data.toList.map fun b=>.int .u8 (b.toNat:Int)
def u8:V→Option Int
 | .int .u8 n=>some n
 | _=>none
def tR (c9:List Int):ByteArray:=c9.foldl (fun r n=>r.push (UInt8.ofNat n.toNat)) ByteArray.empty
def bC (s:ByteArray) (i:Int):Int:=if h:i.toNat<s.size then((s[i.toNat]'h).toNat:Int)else 0
section
variable (P:Program) (H:Hint)
def yO (ty:TypeId) (v:V) (lo hi mx:Option Int):Option V:=
 match v with
 | .str s=>match mx with
   | some _=>none
   | none=>if isStr P ty=true∧0≤lo.getD 0∧lo.getD 0≤hi.getD s.size∧hi.getD s.size≤s.size then some (.str (s.extract (lo.getD 0).toNat (hi.getD s.size).toNat))else none
 | .slc _ sz xs=>if hp P ty=true∧sz=c3 P ty∧sz≠0∧0≤lo.getD 0∧lo.getD 0≤hi.getD xs.length∧hi.getD xs.length≤xs.length then
  (match mx with
   | some m=>if m=hi.getD xs.length∧hi.isSome then some (.slc true sz ((xs.take (hi.getD xs.length).toNat).drop (lo.getD 0).toNat))else none
   | none=>some (.slc false sz ((xs.take (hi.getD xs.length).toNat).drop (lo.getD 0).toNat)))
   else none
 | _=>none
def gY (ty:TypeId):Bool:=hp P ty&&c3 P ty != 0&&P.bytesOf (elemOf P ty) != 0&&(match zero P (elemOf P ty)with | some z=>z.length==c3 P ty | none=>false)
def pN (ty ty':TypeId) (v x:V):Option V:=
 match v with
 | .slc true sz l=>if gY P ty=true∧sz=c3 P ty then match x with
   | .slc _ b8 m=>if hp P ty'=true∧b8=sz then if(l.length+m.length)*P.bytesOf (elemOf P ty)≤140737488355328 then some (.slc true sz (l++m))else none else none
   | .str s=>if isStr P ty'=true∧sz=1 then if(l.length+s.size)*P.bytesOf (elemOf P ty)≤140737488355328 then some (.slc true 1 (l++gX s))else none else none
   | _=>none
   else none
 | _=>none
def yP (ty ty':TypeId) (u:Bool) (v x:V):Option V:=
 match v with
 | .uq sz l=>(pN P ty ty' (.slc true sz l) x).bind fun r=>match r with
   | .slc true sz l=>some (.uq sz l)
   | _=>none
 | v=>if u then(match v with
   | .slc true sz []=>(pN P ty ty' (.slc true sz []) x).bind fun r=>match r with
     | .slc true sz l=>some (.uq sz l)
     | _=>none
   | _=>none)
   else pN P ty ty' v x
def yQ (ty ty':TypeId) (v:V) (b8:Nat) (m:List V):Option V:=
 match v with
 | .uq sz l=>if gY P ty=true∧sz=c3 P ty∧hp P ty'=true∧b8=sz∧(l.length+m.length)*P.bytesOf (elemOf P ty)≤140737488355328 then some (.uq sz (l++m))else none
 | .slc true sz []=>if gY P ty=true∧sz=c3 P ty∧hp P ty'=true∧b8=sz∧m.length*P.bytesOf (elemOf P ty)≤140737488355328 then some (.uq sz m)else none
 | _=>none
def yR (src dst:TypeId) (v:V):Option V:=
 match P.underlying src,P.underlying dst,v with
 | some (.int _),some (.int k),.int _ n=>some (.int k (k.wrap n))
 | some .string,some .string,.str s=>some (.str s)
 | some (.slice e),some .string,.slc _ sz l=>match P.underlying e,e0 u8 l with
   | some (.int .u8),some c9=>if sz=1 then some (.str (tR c9))else none
   | _,_=>none
 | _,_,_=>none
def wk (s:ab) (t:TypeId):V→Option V
 | .slc _ _ l=>if hp P t then some (.int .i64 (l.length:Int))else none
 | .str x=>if isStr P t then some (.int .i64 (x.size:Int))else none
 | .bS _ _ n=>if hp P t then some (.int .i64 (n:Int))else none
 | .hn _ _ n=>if hp P t then some (.int .i64 (n:Int))else none
 | .ho _ _ n=>if hp P t then some (.int .i64 (n:Int))else none
 | .mp lv u=>match P.underlying t,s.ob lv u with
   | some (.map _ _),some (.map es)=>some (.int .i64 (es.length:Int))
   | _,_=>none
 | _=>none
def yS:V→V→Option V
 | .int k a,.int bI b=>if k=bI then some (.int k (if b<a then b else a))else none
 | _,_=>none
def yT:V→V→Option V
 | .int k a,.int bI b=>if k=bI then some (.int k (if b>a then b else a))else none
 | _,_=>none
def wm (op:UnOp) (v:V):Option V:=match op,v with
 | .not,.bool b=>some (.bool (!b))
 | .neg,.int k n=>some (.int k (k.wrap (0-n)))
 | _,_=>none
def jg (bW:Array Field):ab→List V→List (Nat×Operand)→Option (List V×ab)
 | s,cs,[]=>some (cs,s)
 | s,cs,(i,x)::ps=>match bW[i]? with
   | some f=>
     let v:=s.all P f.type x
     let c:=v.flat
     if c.length=az P f.type∧f.offset+c.length≤cs.length then(match v with
      | .tup _ | .undef=>none
      | _=>jg bW (s.drop x) (eg cs f.offset c) ps)else none
   | none=>none
def h0 (e:TypeId):ab→List Operand→Option (List V×ab)
 | s,[]=>some ([],s)
 | s,x::xs=>match s.all P e x with
   | .tup _ | .undef=>none
   | v=>match h0 e (s.drop x) xs with
     | some (vs,s1)=>some (v.hand::vs,s1)
     | none=>none
def m0:Nat→List (Nat×Operand)→Bool
 | _,[]=>true
 | n,p::ps=>if p.1=n then m0 (n+1) ps else false
def hq (s:ab) (jV:Bool) (t:TypeId):V→Option (V×ab)
 | .ptr lv u off=>match s.ob lv u with
   | some (.box cs)=>if off+az P t≤cs.length∧az P t≠0 then
    (if jV then some (pack (isAgg P t) ((cs.drop off).take (az P t)),s.c6 lv u (.box (eg cs off (((cs.drop off).take (az P t)).map V.cM))))
    else some (pack (isAgg P t) (((cs.drop off).take (az P t)).map V.cM),s))else none
   | _=>none
 | .imp l=>if az P t≤l.length∧az P t≠0 then some (pack (isAgg P t) (l.take (az P t)),s)else none
 | .gA lv u i sz=>match s.ob lv u with
   | some (.arr _ b8 l)=>if sz=az P t∧b8=sz∧sz≠0∧i<l.length then some (pack (isAgg P t) (l.getD i .undef).flat,s)else none
   | some (.dir b8 l)=>if sz=az P t∧b8=sz∧sz≠0∧i<l.length then some (pack (isAgg P t) (l.getD i .undef).flat,s)else none
   | _=>none
 | _=>none
def rV (s:ab) (t:TypeId) (x:Operand):V→Option ab
 | .ptr lv u off=>
   let v:=s.all P t x
   match s.ob lv u with
   | some (.box cs)=>if v.flat.length=az P t∧off+az P t≤cs.length∧az P t≠0∧v.flat.all mr∧v.flat.all (fS lv)then(match v with
    | .tup _ | .undef=>none
    | _=>some ((s.drop x).c6 lv u (.box (eg cs off v.flat))))else none
   | _=>none
 | .gA lv u i sz=>match s.ob lv u with
   | some (.lJ b8 l)=>let v:=(s.all P t x).hand
     if sz=az P t∧b8=sz∧v.flat.length=sz∧sz≠0∧i<l.length∧v.flat.all nO=true then some ((s.drop x).c6 lv u (.lJ sz (l.set i v)))else none
   | _=>match s.tree P t x with
     | some (v,s1)=>match s1.ob lv u with
       | some (.arr false b8 l)=>if sz=az P t∧b8=sz∧v.flat.length=sz∧sz≠0∧i<l.length then some (s1.c6 lv u (.arr false sz (l.set i v)))else none
       | some (.dir b8 l)=>if sz=az P t∧b8=sz∧v.flat.length=sz∧sz≠0∧i<l.length then some (s1.c6 lv u (.dir sz (l.set i v)))else none
       | _=>none
     | none=>none
 | _=>none
def b2 (s:ab) (t:TypeId) (f:Nat) (v:V):Option V:=match P.underlying t with
 | some (.struct bW)=>match bW[f]?,v with
   | some f,.agg l=>if f.offset+az P f.type≤l.length∧az P f.type≠0 then some (pack (isAgg P f.type) ((l.drop f.offset).take (az P f.type)))else none
   | _,_=>none
 | _=>none
def b3 (t:TypeId) (f:Nat) (v:V):Option V:=match P.underlying t with
 | some (.struct bW)=>match bW[f]? with
   | some f=>if az P f.type≠0 then(match v with
     | .ptr lv u off=>some (.ptr lv u (off+f.offset))
     | .imp l=>some (.imp (l.drop f.offset))
     | _=>none)else none
   | _=>none
 | _=>none
def yU (t:TypeId) (v i:V):Option V:=match v,i with
 | .slc _ sz l,.int _ n=>if hp P t=true∧sz=c3 P t∧sz≠0 then if 0≤n∧n<(l.length:Int)then some (.imp (l.getD n.toNat (eB P t)).flat)else none else none
 | .bS lv u m,.int _ n=>if hp P t=true∧c3 P t≠0 then if 0≤n∧n<(m:Int)then some (.gA lv u n.toNat (c3 P t))else none else none
 | .hn lv u m,.int _ n=>if hp P t=true∧c3 P t≠0 then if 0≤n∧n<(m:Int)then some (.gA lv u n.toNat (c3 P t))else none else none
 | .ho lv u m,.int _ n=>if hp P t=true∧c3 P t≠0 then if 0≤n∧n<(m:Int)then some (.ptr lv u (n.toNat*c3 P t))else none else none
 | .ptr lv u off,.int _ n=>match P.underlying t with
   | some (.array k e)=>if az P e≠0 then if 0≤n∧n<(k:Int)then some (.ptr lv u (off+n.toNat*az P e))else none else none
   | _=>none
 | _,_=>none
def yV (t:TypeId) (v i:V):Option V:=match v,i with
 | .str b,.int _ n=>if isStr P t=true then if 0≤n∧n<(b.size:Int)then some (.int .u8 (bC b n))else none else none
 | .agg l,.int _ n=>match P.underlying t with
   | some (.array k e)=>if az P e≠0∧l.length=k*az P e then if 0≤n∧n<(k:Int)then some (pack (isAgg P e) ((l.drop (n.toNat*az P e)).take (az P e)))else none else none
   | _=>none
 | _,_=>none
def yW (s:ab) (t:TypeId) (ok:Bool) (m k:V):Option V:=match P.underlying t,m with
 | some (.map kt e),.mp lv u=>match s.ob lv u,zero P e with
   | some (.map es),some z=>if(ea P kt k k).isSome=true∧z.length=az P e∧z.length≠0∧(z.length=1∨isAgg P e=true)then match qL P kt k es with
     | some (some v)=>some (if ok then .tup [v,.bool true]else v)
     | none=>none
     | some none=>some (if ok then .tup [(pack (isAgg P e) z).view,.bool false]else(pack (isAgg P e) z).view)
     else none
   | _,_=>none
 | _,_=>none
def tS (s:ab) (t:TypeId) (m k v:Operand):Option ab:=match P.underlying t with
 | some (.map kt e)=>match s.tree P kt k with
   | some (nP,s1)=>match s1.tree P e v with
     | some (qN,s2)=>match s2.aM P t m with
       | .mp lv u=>match s2.ob lv u with
         | some (.map es)=>if(ea P kt nP nP).isSome=true then(qM P kt nP qN es).map fun es=>s2.c6 lv u (.map es)else none
         | _=>none
       | _=>none
     | none=>none
   | none=>none
 | _=>none
def oY (l:List Nat):Operand→Bool
 | .tmp i=>aG i l
 | _=>false
def jh (f:ab→Nat→V→Option (V×ab)) (M:Nat) (id:Nat):ab→Nat→List V→Option (List V×ab)
 | s,_,[]=>some ([],s)
 | s,k,c::l=>match f s (id+(k+1)*M) c with
   | some (bJ,s1)=>match jh f M id s1 (k+1) l with
     | some (bc,s2)=>some (bJ::bc,s2)
     | none=>none
   | none=>none
def V.rW:V→List V→V
 | .agg _,cs=>.agg cs
 | _,cs=>cs.headD .undef
def jv (f:ab→Nat→V→Option (V×ab)) (M id sz:Nat):ab→Nat→List V→Option (List V×ab)
 | s,_,[]=>some ([],s)
 | s,i,e::l=>match jh f M id s (i*sz) e.flat with
   | some (cs,s1)=>match jv f M id sz s1 (i+1) l with
     | some (bc,s2)=>some (e.rW cs::bc,s2)
     | none=>none
   | none=>none
def fb:Nat→ab→Nat→V→Option (V×ab)
 | n+1,s,id,.uq sz (x::l)=>match jv (fb n) (4294967296^(n+1)) id sz s 0 (x::l)with
   | some (bc,s1)=>match s1.b id with
     | none=>some (.bS s1.lv id bc.length,{s1 with b:=ae s1.b id (some (.dir sz bc))})
     | some _=>none
   | none=>none
 | _,s,_,.uq sz []=>some (.slc false sz [],s)
 | _,s,_,v=>if bM v then some (v,s)else none
def kV (l:List V):Bool:=(l.map V.flat).flatten.all bM
def e1 (s:ab) (d:Nat):V→Option (V×ab)
 | .uq sz []=>some (.slc true sz [],s)
 | .uq sz (x::l)=>if kV (x::l)then(match s.b d with
   | none=>some (.bS s.lv d (l.length+1),{s with b:=ae s.b d (some (.arr false sz (x::l)))})
   | some _=>none)else fb 8 s d (.uq sz (x::l))
 | .nw l=>if l.all bM then(match s.b d with
   | none=>some (.ptr s.lv d 0,{s with b:=ae s.b d (some (.box l))})
   | some _=>none)else none
 | v=>some (v,s)
def fA (s:ab):Nat→List V→Option (List V×ab)
 | _,[]=>some ([],s)
 | d,c::l=>match fA s (d+1) l with
   | some (bc,s1)=>(e1 s1 d c).map fun r=>(r.1::bc,r.2)
   | none=>none
def jw (s:ab) (d:Nat) (v:V):Option (V×ab):=match v with
 | .uq sz (x::l)=>if kV (x::l)then e1 s d (.uq sz (x::l))else some (.uq sz (x::l),s)
 | v=>e1 s d v
def hr (s:ab):Nat→List V→Option (List V×ab)
 | _,[]=>some ([],s)
 | d,c::l=>match hr s (d+1) l with
   | some (bc,s1)=>(jw s1 d c).map fun r=>(r.1::bc,r.2)
   | none=>none
def kv (s:ab) (d:Nat) (v:V):Option (V×ab):=match v with
 | .uq sz (x::l)=>if kV (x::l)then some (.uq sz (x::l),s)else if sz=1∧(((x::l).map V.flat).flatten.all nO)=true then(match s.b d with
   | none=>some (.ho s.lv d (l.length+1),{s with b:=ae s.b d (some (.box ((x::l).map V.flat).flatten))})
   | some _=>none)else none
 | v=>some (v,s)
def hs (s:ab):Nat→List V→Option (List V×ab)
 | _,[]=>some ([],s)
 | d,c::l=>match hs s (d+1) l with
   | some (bc,s1)=>(kv s1 d c).map fun r=>(r.1::bc,r.2)
   | none=>none
def tT (l:List Nat):Operand→Bool
 | .tmp i=>aG (i+2000000) l
 | _=>false
def pO (s:ab) (d:Nat) (t:TypeId):V→Option (V×ab)
 | .ptr lv u off=>if lv=s.lv then match s.b u with
   | some (.box cs)=>if off<cs.length∧az P t=1∧isAgg P t=false then match cs.getD off .undef with
     | .uq sz (x::l)=>if kV (x::l)then match s.b d with
       | none=>some (.bS s.lv d (l.length+1),{s with b:=ae (ae (ae s.b u (some (.box (eg cs off [.undef])))) d (some (.arr false sz (x::l)))) u (some (.box (eg cs off [.bS s.lv d (l.length+1)])))})
       | some _=>none
       else none
     | _=>none
     else none
   | _=>none
   else none
 | _=>none
def rX (l:List Nat):Operand→Bool
 | .tmp i=>aG (i+1000000) l
 | _=>false
def lK (mk:ab→Nat→List V→Option (List V×ab)) (s:ab) (t:TypeId) (x:Operand):V→Option ab
 | .ptr lv u off=>
   let v:=s.all P t x
   if lv=s.lv∧v.flat.length=az P t then match v with
    | .tup _ | .undef=>none
    | _=>match mk (s.drop x) (s.n+64*u+off) v.flat with
      | some (gr,s1)=>match s1.ob lv u with
        | some (.box cs)=>if off+az P t≤cs.length∧az P t≠0∧gr.all mr∧gr.all (fS lv)then some (s1.c6 lv u (.box (eg cs off gr)))else none
        | _=>none
      | none=>none
   else none
 | _=>none
def lL (s:ab):V→Option (V×ab)
 | .hn lv u n=>if lv=s.lv then(match s.b u with
   | some (.lJ sz l)=>if l.length=n then some (.uq sz l,{s with t:=bH,b:=bk})else none
   | _=>none)else none
 | _=>none
def bw (d:Nat) (ty:TypeId) (op:Op) (s:ab):Option (V×ab):=
 match op with
 | .move x | .assign x=>match x with
   | .tmp i=>if aG d H.own then lL s (s.t i)else if aG d H.c2 then s.tree P ty (.tmp i)else if aG d H.take then(if aG d H.make then e1 (s.drop x) d (s.t i)else some (s.t i,s.drop x))else some ((s.t i).view,s)
   | x=>some (rd P s.t ty x,s)
 | .pick c a b=>match s.aM P 0 c with
   | .bool qO=>some (V.ite qO (s.aM P ty a) (s.aM P ty b),s)
   | _=>none
 | .alloc e=>match s.b d,zero P e with
   | none,some z=>if z.all (fS s.lv)then some (.ptr s.lv d 0,{s with b:=ae s.b d (some (.box z))})else none
   | _,_=>none
 | .box e x=>match s.b d,s.all P e x with
   | none,.tup _=>none
   | none,.undef=>none
   | none,v=>if v.flat.all (fS s.lv)then some (.ptr s.lv d 0,{s.drop x with b:=ae s.b d (some (.box v.flat))})else none
   | some _,_=>none
 | .build t ps=>match P.underlying t,zero P t with
   | some (.struct bW),some z=>if bW.toList.all (fun f=>az P f.type != 0)then(jg P bW s z ps.toList).map fun r=>(.agg r.1,r.2)else none
   | some (.array n e),some z=>if m0 0 ps.toList&&decide (ps.size≤n)&&az P e != 0&&z.length==n*az P e&&az P t != 0 then
    match ab.trees P s (ps.toList.map fun p=>(e,p.2))with
    | some (vs,s1)=>if vs.all (fun v=>v.flat.length==az P e)then some (.agg ((vs.map V.flat).flatten++(z.drop (vs.length*az P e)).map V.cM),s1)else none
    | none=>none
     else none
   | _,_=>none
 | .buildSlice t n ps=>if aG d H.own then(if hp P t&&m0 0 ps.toList&&ps.size==n&&c3 P t != 0&&decide (n*c3 P t≤16777216)&&(zero P (elemOf P t)).isSome then
  match h0 P (elemOf P t) s (ps.toList.map (·.2))with
  | some (vs,s1)=>if vs.all (fun v=>v.flat.length==c3 P t&&v.flat.all nO)&&!vs.isEmpty then some (.uq (c3 P t) vs,s1)else none
  | none=>none
   else none)else if hp P t&&m0 0 ps.toList&&ps.size==n&&c3 P t != 0&&decide (n*c3 P t≤16777216)&&(zero P (elemOf P t)).isSome then
    match ab.trees P s (ps.toList.map fun p=>(elemOf P t,p.2))with
    | some (vs,s1)=>if vs.all (fun v=>v.flat.length==c3 P t)then
     (if aG d H.make then match s1.b d with
      | none=>some (.bS s.lv d n,{s1 with b:=ae s1.b d (some (.arr false (c3 P t) vs))})
      | some _=>none
     else some (.slc true (c3 P t) vs,s1))
      else none
    | none=>none
   else none
 | .load t a=>if aG d H.make then pO P s d t (s.aM P 0 a)else hq P s (aG d H.take) t (s.aM P 0 a)
 | .nilCheck x=>match s.aM P 0 x with
   | .ptr lv t off=>some (.ptr lv t off,s)
   | .imp l=>some (.imp l,s)
   | .gA lv t i sz=>some (.gA lv t i sz,s)
   | .fn f c=>some (.fn f c,s)
   | _=>none
 | .binOp op ty x y _=>if yN y then(wj P op ty (s.aM P ty x)).map (·,s)else(wi P ty op (s.aM P ty x) (s.aM P ty y)).map (·,s)
 | .unOp op ty x=>(wm op (s.aM P ty x)).map (·,s)
 | .convert src dst x=>(yR P src dst (s.aM P src x)).map (·,s)
 | .makeFunc (.func f) first bg=>if first.isEmpty then(e0 (fun x=>match s.aM P 0 x with | .ptr lv t off=>some (.ptr lv t off) | _=>none) bg.toList).map fun cs=>(.fn f cs,s)else none
 | .makeMap _ r=>match s.b d,r with
   | none,none=>some (.mp s.lv d,{s with b:=ae s.b d (some (.map []))})
   | _,_=>none
 | .makeSlice t l c=>match s.aM P 0 l,s.aM P 0 c,zero P (elemOf P t)with
   | .int _ n,.int _ m,some z=>if hp P t=true∧c3 P t≠0∧P.bytesOf (elemOf P t)≠0∧z.length=c3 P t∧(eB P t).flat.length=c3 P t then
    if 0≤n∧n≤m∧m*P.bytesOf (elemOf P t)≤140737488355328 then
    (if aG d H.make then match s.b d with
     | none=>some (.bS s.lv d n.toNat,{s with b:=ae s.b d (some (.arr false (c3 P t) (List.replicate n.toNat (eB P t))))})
     | some _=>none
    else if aG d H.own then match s.b d with
     | none=>if n=m∧(eB P t).flat.all bM=true then some (.hn s.lv d n.toNat,{s with b:=ae s.b d (some (.lJ (c3 P t) (List.replicate n.toNat (eB P t))))})else none
     | some _=>none
    else some (.slc true (c3 P t) (List.replicate n.toNat (eB P t)),s))
    else none
     else none
   | _,_,_=>none
 | .slice t x lo hi mx=>match oX (lo.map (s.aM P 0)),oX (hi.map (s.aM P 0)),oX (mx.map (s.aM P 0))with
   | some l,some h,some m=>(yO P t (s.aM P t x) l h m).map (·,s)
   | _,_,_=>none
 | .fieldAddr t x f=>(b3 P t f (s.aM P 0 x)).map (·,s)
 | .field t x f=>(b2 P s t f (s.aM P t x)).map (·,s)
 | .indexAddr t x i=>(yU P t (s.aM P t x) (s.aM P 0 i)).map (·,s)
 | .index t x i=>(yV P t (s.aM P t x) (s.aM P 0 i)).map (·,s)
 | .lookup t m k ok=>match P.underlying t with
   | some (.map kt e)=>(yW P s t ok (s.aM P t m) (s.aM P kt k)).map (·,s)
   | _=>none
 | .extract x i=>match x with
   | .tmp u=>match s.t u with
     | .tup l=>(l[i]?).map fun v=>(if aG d H.c2 then v.settle else v,s.put u (.tup (l.set i .undef)))
     | _=>none
   | _=>none
 | .call {callee:=.builtin b,args,argTypes}=>match b,args.toList,argTypes.toList with
   | .len,[x],[t]=>(wk P s t (s.aM P t x)).map (·,s)
   | .min,[x,y],_=>(yS (s.aM P 0 x) (s.aM P 0 y)).map (·,s)
   | .max,[x,y],_=>(yT (s.aM P 0 x) (s.aM P 0 y)).map (·,s)
   | .append,[x,y],[t,bY]=>if aG d H.own then(match s.all P bY y with
    | .uq sz m=>(yQ P t bY ((s.drop y).all P t x) sz m).map (·,(s.drop y).drop x)
    | _=>none)
     else(yP P t bY (aG d H.uniq) (s.all P t x) (s.aM P bY y)).map (·,s.drop x)
   | _,_,_=>none
 | _=>none
def gu (op:Op) (s:ab):Option ab:=
 match op with
 | .store t a x=>if oY H.make a then lK P fA s t x (s.aM P 0 a)else if rX H.make a then lK P hr s t x (s.aM P 0 a)else if tT H.make a then lK P hs s t x (s.aM P 0 a)else rV P s t x (s.aM P 0 a)
 | .mapUpdate t m k v | .insert t m k v=>tS P s t m k v
 | _=>none
def jx (o:Oper) (s:ab):Option ab:=match o.dst with
 | some d=>if d<s.n then(bw P H d o.type o.op s).map fun r=>r.2.put d r.1 else none
 | none=>gu P H o.op s
end
inductive Out where
 | go (k:List cJ) (s:ab)
 | call (f:Nat) (args:List V) (outer:List (Nat→Option ax)) (plain:Bool×Bool×Bool) (d:Option Nat) (k:List cJ) (s:ab)
 | done (v:V) (o:List (Nat→Option ax))
 | draw (ops:Array Oper) (c:List Nat) (alt:List (Nat×Nat×List Nat)) (k:List cJ) (s:ab)
 | fail
def m1:Nat→List V→(Nat→V)
 | _,[]=>bH
 | i,a::l=>ae (m1 (i+1) l) i a
def lM (s:ab):V→Option (V×ab)
 | .bS lv u n=>(tree (s.c2 (.bS lv u n)) (.bS lv u n)).map (·,s.c2 (.bS lv u n))
 | v=>if v.je then some (v,s)else none
def m2:ab→List V→Option (List V×ab)
 | s,[]=>some ([],s)
 | s,c::l=>match lM s c with
   | some (bJ,s1)=>match m2 s1 l with
     | some (bc,s2)=>some (bJ::bc,s2)
     | none=>none
   | none=>none
def jW (s:ab):V→Option (V×ab)
 | .agg l=>(m2 s l).map fun r=>(.agg r.1,r.2)
 | v=>lM s v
def rY (s:ab):Nat→V→Option V
 | _+1,.bS lv t k=>if lv=s.lv then match s.b t with
   | some (.arr _ sz l)=>if l.length=k then some (.slc false sz l)else none
   | _=>none
   else none
 | n+1,.ho lv t k=>if lv=s.lv then match s.b t with
   | some (.box cs)=>if cs.length=k then(e0 (rY s n) cs).map (.slc false 1 ·)else none
   | _=>none
   else none
 | _,.uq sz l=>some (V.cI (.uq sz l))
 | _,v=>if bM v.cM then some v.cM else none
def Bx (s:ab):V→Option V
 | .agg l=>(e0 (rY s 9) l).map .agg
 | v=>rY s 9 v
def tU (P:Program) (s:ab):ResultVar→Option (V×ab)
 | .tmp t=>match s.t t with
   | .ptr lv u off=>if lv=s.lv∧off=0 then(match s.b u with
     | some (.box cs)=>if(cs.map V.cM).all bM then some (.nw (cs.map V.cM),s)else none
     | _=>none)else none
   | v=>jW s v
 | .cell x ty=>match hq P s true ty (s.aM P 0 (.tmp x))with
   | some (v,s1)=>match jW s1 v with
     | some r=>some r
     | none=>match hq P s false ty (s.aM P 0 (.tmp x))with
       | some (v,s1)=>(Bx s1 v.view).map (·,s1)
       | none=>none
   | none=>none
def wo (P:Program) (s:ab):ResultVar→Option (V×ab)
 | .tmp t=>s.tree P 0 (.tmp t)
 | .cell x ty=>match hq P s false ty (s.aM P 0 (.tmp x))with
   | some (v,s1)=>if v.view.flat.all bM then some (v.view,s1)else none
   | none=>none
def rZ (P:Program):ab→List ResultVar→Option (List V×ab)
 | s,[]=>some ([],s)
 | s,r::rs=>match wo P s r with
   | some (v,s1)=>match rZ P s1 rs with
     | some (vs,s2)=>some (v::vs,s2)
     | none=>none
   | none=>none
def pP:ab→List ResultVar→Option (List V×ab)
 | s,[]=>some ([],s)
 | s,.tmp t::rs=>match jW (s.put t (s.t t).view) (s.t t)with
   | some (v,s1)=>match pP s1 rs with
     | some (vs,s2)=>some (v::vs,s2)
     | none=>none
   | none=>none
 | _,.cell _ _::_=>none
def wq (P:Program) (s:ab):List ResultVar→Option (List V×ab)
 | .cell x ty::rs=>match hq P s true ty (s.aM P 0 (.tmp x))with
   | some (u,s1)=>match jW s1 u with
     | some (v,s2)=>match pP s2 rs with
       | some (vs,s3)=>some (v::vs,s3)
       | none=>none
     | none=>none
   | none=>none
 | rs=>pP s rs
def yX (P:Program) (s:ab) (rs:List ResultVar):Option (List V×ab):=match rZ P s rs with
 | some x=>some x
 | none=>wq P s rs
def oZ (P:Program) (s:ab):Option (V×ab):=match s.r.toList with
 | [r]=>tU P s r
 | rs=>(yX P s rs).map fun x=>(.tup x.1,x.2)
def ab.cV (s:ab) (d:Option Nat) (v:V):ab:=match d with
 | some d=>s.put d v
 | none=>s
def dQ (E:Env) (g:Nat) (d:Option Nat) (s:ab):Bool:=match (E.H g).uniq with
 | []=>false
 | _::_=>match d with
   | some d=>!aG d (E.H s.f).uniq
   | none=>true
def pQ (f:V→Option V):List V→Option (List V)
 | []=>some []
 | e::l=>match e0 f e.flat,pQ f l with
   | some cs,some bc=>some (e.rW cs::bc)
   | _,_=>none
def ht (s:ab):Nat→V→Option V
 | n+1,.bS lv t k=>match s.ob lv t with
   | some (.arr _ sz l)=>if l.length=k then some (.slc false sz l)else none
   | some (.dir sz l)=>if l.length=k then(pQ (ht s n) l).map (.slc false sz ·)else none
   | _=>none
 | _,v=>if bM v.cM then some v.cM else none
def ab.pR (s:ab) (P:Program) (ty:TypeId) (x:Operand):Option V:=match s.aM P ty x with
 | .agg l=>(e0 (ht s 9) l).map .agg
 | v=>ht s 9 v
def ab.gb (s:ab) (P:Program):List (TypeId×Operand)→Option (List V)
 | []=>some []
 | (ty,x)::l=>match s.pR P ty x,s.gb P l with
   | some v,some vs=>some (v::vs)
   | _,_=>none
def ab.r0 (s:ab) (P:Program) (ty:TypeId) (x:Operand):Option (V×ab):=match s.aM P ty x with
 | .bS lv t n=>some (.bS lv t n,s)
 | .agg l=>if l.all jt then some (.agg l,s)else none
 | _=>s.arg P ty x
def FD:Operand→Nat
 | .tmp i=>i
 | _=>0
def ab.r1 (s:ab) (P:Program) (ty:TypeId) (x:Operand):Option (V×ab):=match s.all P ty x with
 | .uq sz l=>some (.uq sz l,s.drop x)
 | .slc true sz []=>some (.uq sz [],s.drop x)
 | .nw l=>e1 (s.drop x) (FD x) (.nw l)
 | _=>s.r0 P ty x
def ab.hI (P:Program):ab→List (TypeId×Operand)→Option (List V×ab)
 | s,[]=>some ([],s)
 | s,(ty,x)::l=>match s.r1 P ty x with
   | some (v,s1)=>match ab.hI P s1 l with
     | some (vs,s2)=>some (v::vs,s2)
     | none=>none
   | none=>none
def gB (d:Option Nat) (l:List Nat):Bool:=match d with
 | some d=>aG d l
 | none=>false
def m3 (E:Env) (d:Option Nat) (f:Operand) (args:Array Operand) (argTypes:Array TypeId) (k:List cJ) (s:ab):Out:=
 match s.aM E.P 0 f,s.gb E.P (argTypes.toList.zip args.toList)with
 | .fn g [],some vs=>if args.size=argTypes.size∧d.all (fun d=>decide (d<s.n))then .call g vs [] (true,false,true) d k s else .fail
 | _,_=>.fail
def tV (E:Env) (d:Option Nat) (f:Operand) (args:Array Operand) (argTypes:Array TypeId) (k:List cJ) (s:ab):Out:=
 match s.aM E.P 0 f,s.hI E.P (argTypes.toList.zip args.toList)with
 | .fn g [],some (vs,s1)=>if args.size=argTypes.size∧d.all (fun d=>decide (d<s.n))then .call g vs (s1.b::s1.o) (false,dQ E g d s1,false) d k s1 else .fail
 | _,_=>.fail
def jy (E:Env) (d:Option Nat) (f:Operand) (args:Array Operand) (argTypes:Array TypeId) (k:List cJ) (s:ab):Out:=
 match s.aM E.P 0 f,s.args E.P (argTypes.toList.zip args.toList)with
 | .fn g bg,some (vs,s1)=>if args.size=argTypes.size∧d.all (fun d=>decide (d<s.n))then
   (if(vs++bg).any isRef||!bg.isEmpty then .call g (vs++bg) (s1.b::s1.o) (false,dQ E g d s1,false) d k s1
   else match E.bm g (vs++bg)with
   | some v=>.go k (s1.cV d v)
   | none=>.call g (vs++bg) [] (true,dQ E g d s1,false) d k s1)
   else .fail
 | _,_=>.fail
def gC (E:Env) (d:Option Nat) (f:Operand) (args:Array Operand) (argTypes:Array TypeId) (k:List cJ) (s:ab):Out:=
 if gB d (E.H s.f).fI then m3 E d f args argTypes k s
 else if gB d (E.H s.f).iL then tV E d f args argTypes k s
 else jy E d f args argTypes k s
theorem yY {E:Env} {d:Option Nat} {f:Operand} {args:Array Operand} {argTypes:Array TypeId} {k:List cJ} {s:ab} (h:gB d (E.H s.f).fI=false) (aZ:gB d (E.H s.f).iL=false):gC E d f args argTypes k s=jy E d f args argTypes k s:=by
 unfold gC
 rw[if_neg (by rw[h];exact Bool.false_ne_true),if_neg (by rw[aZ];exact Bool.false_ne_true)]
def gZ (E:Env) (f:Nat) (args:List V) (outer:List (Nat→Option ax)):Option (List cJ×ab):=
 match E.P.funcs[f]? with
 | some fn=>if args.length≤fn.ntmps∧(fn.name== "runtime.NumGoroutine")=false then fn.body.map fun c=>([.code c],{t:=m1 0 args,b:=bk,o:=outer,r:=fn.results,f:=f,n:=fn.ntmps})else none
 | none=>none
def FE:V→Bool
 | .agg _ | .tup _=>false
 | _=>true
def V.qP:V→Bool
 | .agg m=>m.all FE
 | .tup _=>false
 | _=>true
def V.qQ:V→Bool
 | .tup l=>l.all V.qP
 | v=>v.qP
def wu (plain:Bool×Bool) (v:V):V:=if plain.2 then(if v.free&&v.qQ then v else .undef)else iw plain.1 v
def h1 (s:ab) (plain:Bool×Bool×Bool) (d:Option Nat) (v:V) (o:List (Nat→Option ax)):ab:=
 if plain.1 then s.cV d (wu plain.2 v)else {s.cV d (wu plain.2 v)with b:=o.headD bk,o:=o.tail}
abbrev ds:=List cJ→ab→Option (V×List (Nat→Option ax))
def eC (E:Env) (ev:ds):Out→Option ab
 | .go _ bb=>some bb
 | .call f args outer plain d _ bb=>match gZ E f args outer with
   | none=>none
   | some (cf,bE)=>match ev cf bE with
     | none=>none
     | some r=>some (h1 bb plain d r.1 r.2)
 | _=>none
def eL (E:Env) (ev:ds) (o:Oper) (s:ab):Option ab:=match o.op with
 | .call {callee:=.value f,args,argTypes}=>eC E ev (gC E o.dst f args argTypes [] s)
 | _=>jx E.P (E.H s.f) o s
def ha (all:Array Oper) (o:Oper) (s:ab):Option Bool:=match o.guard with
 | none=>some true
 | some (j,want)=>match ((all[j]?).bind (·.dst)).map s.t with
   | some (.bool b)=>some (b==want)
   | some (.tup [])=>some false
   | _=>none
def cl (P:Program) (H:Hint) (o:Oper):Bool:=match o.dst with
 | none=>false
 | some d=>match o.op with
   | .move _ | .assign _=>!(aG d H.c2||aG d H.make||aG d H.own)
   | .pick .. | .nilCheck _ | .binOp .. | .unOp .. | .convert .. | .slice .. | .fieldAddr .. | .field .. | .indexAddr .. | .index .. | .extract ..=>true
   | .build t _=>match P.underlying t with
     | some (.struct _)=>!aG d H.fa
     | some (.array _ _)=>aG d H.fa
     | _=>false
   | .makeSlice ..=>!aG d H.make&&!aG d H.own
   | .buildSlice ..=>!aG d H.make
   | .call {callee:=.builtin b,args,argTypes}=>match b,args.toList,argTypes.toList with
     | .len,[_],[_] | .min,[_,_],_ | .max,[_,_],_=>true
     | .append,[_,_],[_,_]=>!aG d H.own
     | _,_,_=>false
   | .call {callee:=.value _,..}=>!aG d H.deep&&!(aG d H.fI||aG d H.iL)
   | _=>false
def dj (H:Hint) (o:Oper):Bool:=match o.dst with
 | none=>false
 | some d=>match o.op with
   | .load ..=>!aG d H.take&&!aG d H.make
   | .lookup ..=>true
   | .call {callee:=.value _,..}=>aG d H.fI||(aG d H.deep&&aG d H.ro&&!(aG d H.fI||aG d H.iL))
   | _=>false
def iM (H:Hint) (o:Oper):Bool:=match o.op,o.dst with
 | .alloc _,some _=>true
 | .load ..,some d=>aG d H.take||aG d H.make
 | .store ..,none=>true
 | .call {callee:=.value _,..},some d=>aG d H.deep&&!aG d H.ro&&!(aG d H.fI||aG d H.iL)
 | _,_=>false
def tmpsOf:List Operand→List Nat
 | []=>[]
 | .tmp i::l=>i::tmpsOf l
 | _::l=>tmpsOf l
def gD (H:Hint) (o:Oper):List Nat:=match o.op with
 | .move x | .assign x=>if aG (o.dst.getD 0) H.take then tmpsOf [x]else[]
 | .build _ ps=>if aG (o.dst.getD 0) H.fa then[]else tmpsOf (ps.toList.map (·.2))
 | .buildSlice _ _ ps=>if aG (o.dst.getD 0) H.own then tmpsOf (ps.toList.map (·.2))else[]
 | .call {callee:=.builtin .append,args,..}=>tmpsOf (args.toList.take 1)
 | .store _ _ x=>tmpsOf [x]
 | _=>[]
def ji (H:Hint) (o:Oper):List Nat:=match o.op with
 | .extract (.tmp u) _=>if aG (o.dst.getD 0) H.own then[u]else[]
 | _=>[]
def c0 (H:Hint) (o:Oper):List Nat:=o.dst.toList++(gD H o++ji H o)
def looks (all:Array Oper) (o:Oper):List Nat:=tmpsOf o.op.operands.toList++(match o.guard with
 | some (g,_)=>((all[g]?).bind (·.dst)).toList
 | none=>[])
def wv:V→Bool
 | .mp ..=>true
 | _=>false
def fJ (P:Program) (o:Oper) (s:ab):Bool:=match o.op with
 | .build _ ps | .buildSlice _ _ ps=>ps.toList.all fun p=>!isRef (s.aM P 0 p.2)
 | .call {callee:=.value f,args,..}=>!isRef (s.aM P 0 f)&&args.toList.all fun x=>!isRef (s.aM P 0 x)
 | .call {callee:=.builtin .len,args,..}=>args.toList.all fun x=>!wv (s.aM P 0 x)
 | _=>true
def jz (H:Hint) (d:Nat) (v:V):V:=if aG d H.own then(if aG d H.c2 then v.settle else v)else v.view
def eb (E:Env) (ev:ds) (o:Oper) (s:ab):Option V:=match o.op with
 | .extract (.tmp u) i=>match s.t u with
   | .tup l=>(l[i]?).map (jz (E.H s.f) (o.dst.getD 0))
   | _=>none
 | .call {callee:=.value f,args,argTypes}=>match s.aM E.P 0 f,s.args E.P (argTypes.toList.zip args.toList)with
   | .fn g [],some (vs,_)=>if args.size=argTypes.size∧o.dst.all (fun d=>decide (d<s.n))then
    (match E.bm g vs with
    | some v=>some v
    | none=>match gZ E g vs []with
      | some (cf,bE)=>(ev cf bE).map fun r=>iw (dQ E g o.dst s) r.1
      | none=>none)
     else none
   | _,_=>none
 | _=>(bw E.P (E.H s.f) (o.dst.getD 0) o.type o.op s).map (·.1)
def V.cut:V→V
 | .tup l=>.tup (l.map V.view)
 | v=>v.view
def cW (t:Nat→V) (D C:List Nat) (d:Option Nat) (v:V):Nat→V:=fun x=>if d=some x then v else if aG x D then(t x).view else if aG x C then(t x).cut else t x
def ab.dR (s:ab) (H:Hint) (o:Oper) (v:V):ab:={s with t:=cW s.t (gD H o) (ji H o) o.dst v}
open Classical in
noncomputable def gf (d:Option Nat) (s:ab):Option ab→Option V
 | some s1=>match d with
   | some d=>if s1=s.put d (s1.t d)then some (s1.t d)else none
   | none=>none
 | none=>none
noncomputable def fB (E:Env) (ev:ds) (o:Oper) (s:ab):Option V:=match o.op with
 | .call {callee:=.value f,args,argTypes}=>if gB o.dst (E.H s.f).fI=true then gf o.dst s (eC E ev (m3 E o.dst f args argTypes [] s))else if(args.toList.all fun x=>!isRef (s.aM E.P 0 x))=true then gf o.dst s (eC E ev (jy E o.dst f args argTypes [] s))else none
 | _=>(bw E.P (E.H s.f) (o.dst.getD 0) o.type o.op s).map (·.1)
def h2 (o:Oper):List Nat:=(o.after.toList.filter (Region.binds .any)).map (·.on)
def prec (all:Array Oper):Nat→Nat→Nat→Bool
 | 0,_,_=>false
 | n+1,a,i=>match all[i]? with
   | some o=>(h2 o).any fun e=>e==a||prec all n a e
   | none=>false
def lN (l m:List Nat):Bool:=l.all fun x=>!aG x m
def r2 (P:Program) (H:Hint) (all:Array Oper) (a i:Nat):Bool:=match all[a]?,all[i]? with
 | some x,some y=>((cl P H x&&(cl P H y||dj H y||iM H y))||(dj H x&&(cl P H y||dj H y||iM H y))||(iM H x&&cl P H y))&&
  lN (c0 H x) (looks all y++c0 H y)&&lN (c0 H y) (looks all x++c0 H x)
 | _,_=>false
def fr (s:ab) (o:Oper):Bool:=o.dst.all fun d=>decide (d<s.n)
open Classical in
noncomputable def still (E:Env) (ev:ds) (all:Array Oper) (i:Nat) (s:ab):List (Nat×V)→Bool
 | []=>true
 | (k,v)::l=>(prec all all.size k i||match all[k]? with
   | some o=>if fB E ev o s=some v then true else false
   | none=>false)&&still E ev all i s l
noncomputable def c1 (E:Env) (ev:ds) (all:Array Oper) (i:Nat) (s:ab) (done:List (Nat×V)):Option (ab×List (Nat×V)):=match all[i]? with
 | none=>none
 | some o=>match ha all o s with
   | none=>none
   | some false=>some (s.cV o.dst (.tup []),done)
   | some true=>
     if cl E.P (E.H s.f) o then(if fJ E.P o s&&fr s o then(eb E ev o s).map fun v=>(s.dR (E.H s.f) o v,done)else none)
     else if dj (E.H s.f) o then(if fr s o then(fB E ev o s).map fun v=>(s.dR (E.H s.f) o v,(i,v)::done)else none)
     else match eL E ev o s with
      | some s1=>if still E ev all i s1 done then some (s1,done)else none
      | none=>none
noncomputable def gE (E:Env) (ev:ds) (all:Array Oper):List Nat→ab→List (Nat×V)→Option ab
 | [],s,_=>some s
 | i::c,s,done=>(c1 E ev all i s done).bind fun r=>gE E ev all c r.1 r.2
def ix (H:Hint) (id n:Nat):List Nat:=((H.FB.find? (·.1==id)).map (·.2)).getD (List.range n)
def wx (all:Array Oper):List Nat→List Nat→Bool
 | _,[]=>true
 | seen,i::c=>(match all[i]? with
   | some o=>(h2 o).all fun e=>aG e seen
   | none=>false)&&!aG i seen&&wx all (i::seen) c
def yZ (H:Hint) (all:Array Oper) (a i:Nat):Bool:=match all[a]?,all[i]? with
 | some ⟨some d,.move (.tmp u),_,_,_,none⟩,some ⟨some cy,.move (.tmp kW),_,_,_,none⟩=>u==kW&&aG d H.take&&!(aG d H.c2||aG d H.make||aG d H.own)&&!aG cy H.take&&!(aG cy H.c2||aG cy H.make||aG cy H.own)&&d != cy&&d != u&&cy != u
 | _,_=>false
def y0 (H:Hint) (all:Array Oper) (a i:Nat):Bool:=match all[a]?,all[i]? with
 | some ⟨some d,.extract (.tmp u) _,_,_,_,none⟩,some ⟨some cy,.extract (.tmp kW) _,_,_,_,none⟩=>u==kW&&aG d H.own&&!aG cy H.own&&d != cy&&d != u&&cy != u
 | _,_=>false
def wy (H:Hint) (all:Array Oper) (a i:Nat):Bool:=y0 H all a i||yZ H all a i
def tW (P:Program) (H:Hint) (all:Array Oper) (a i:Nat):Bool:=(prec all all.size a i||(r2 P H all a i||wy H all a i))&&(match all[a]?,all[i]? with
 | some x,some y=>!dj H x||lN (c0 H y) (looks all x)
 | _,_=>false)
def pS (H:Hint) (all:Array Oper) (a:Nat):Bool:=match all[a]? with
 | some x=>!dj H x||lN (c0 H x) (looks all x)
 | none=>false
def y1 (P:Program) (H:Hint) (all:Array Oper):List Nat→Bool
 | []=>true
 | a::c=>pS H all a&&c.all (tW P H all a)&&y1 P H all c
def r3 (P:Program) (H:Hint) (all:Array Oper) (c:List Nat):Bool:=
 c.length==all.size&&((List.range all.size).all fun i=>aG i c)&&wx all [] c&&y1 P H all c
def FF (H:Hint) (id:Nat):Nat→Nat→List (Nat×Nat×List Nat)
 | 0,_=>[]
 | n+1,k=>match H.FB.find? (·.1==id+k*1000000)with
   | some (_,a::b::c)=>(a,b,c)::FF H id n (k+1)
   | _=>[]
def m4 (H:Hint) (id:Nat):List (Nat×Nat×List Nat):=FF H id 4 1
def FG (all:Array Oper) (K:List (Nat×Nat)) (x y:Nat):Bool:=K.any fun p=>p.1==x&&(p.2==y||prec all all.size p.2 y)
def y2 (P:Program) (H:Hint) (all:Array Oper) (K:List (Nat×Nat)):List Nat→Bool
 | []=>true
 | x::c=>pS H all x&&c.all (fun y=>tW P H all x y||FG all K x y)&&y2 P H all K c
def turns (H:Hint) (all:Array Oper) (a:Nat):Bool:=match all[a]? with
 | some x=>iM H x
 | none=>false
def y3 (P:Program) (H:Hint) (all:Array Oper) (K:List (Nat×Nat)) (c:List Nat):Bool:=
 c.length==all.size&&((List.range all.size).all fun i=>aG i c)&&wx all [] c&&y2 P H all K c
def y4 (P:Program) (H:Hint) (all:Array Oper):List (Nat×Nat)→List Nat→List (Nat×Nat×List Nat)→Bool
 | K,c,[]=>y3 P H all K c
 | K,c,(a,b,cu)::r=>turns H all a&&turns H all b&&a != b&&y3 P H all ((a,b)::K) c&&y4 P H all ((b,a)::K) cu r
def ar7 (P:Program) (H:Hint) (all:Array Oper) (c:List Nat) (alts:List (Nat×Nat×List Nat)):Bool:=match alts with
 | []=>r3 P H all c
 | _=>y4 P H all [] c alts
open Classical in
noncomputable def pT (s1 s2:ab):Option ab:=if s1=s2 then some s1 else none
noncomputable def qR (E:Env) (ev:ds) (all:Array Oper) (bE s1:ab):List (Nat×Nat×List Nat)→Option ab
 | []=>some s1
 | (_,_,c)::r=>(gE E ev all c bE []).bind fun s2=>(pT s1 s2).bind fun _=>qR E ev all bE s1 r
noncomputable def jX (E:Env) (ev:ds) (all:Array Oper) (c:List Nat) (alts:List (Nat×Nat×List Nat)) (s:ab):Option ab:=match alts with
 | []=>gE E ev all c s []
 | _=>(gE E ev all c s []).bind fun s1=>qR E ev all s s1 alts
noncomputable def jY (D:List Nat) (t:Nat):Bool:=@decide (4294967296≤t∧aG (t%4294967296) D=true) (Classical.propDecidable _)
theorem By (D:List Nat) (t:Nat):jY D t=true↔4294967296≤t∧aG (t%4294967296) D=true:=by
 unfold jY
 exact @decide_eq_true_iff _ (Classical.propDecidable _)
def jZ (s:ab) (H:Nat→Bool):V→Bool
 | .ptr lv t _=>lv != s.lv||H t
 | v=>bM v
def ar0 (s:ab) (H:Nat→Bool):V→Bool
 | .bS lv t _=>lv != s.lv||H t
 | v=>bM v
def lO (s:ab) (H:Nat→Bool) (v:V):Option V:=match v with
 | .bS lv t n=>if lv=s.lv∧H t=false then tree (s.c2 (.bS lv t n)) (.bS lv t n)else some v
 | .ptr lv t off=>if lv=s.lv∧H t=false then none else some v
 | .hn lv t n=>if lv=s.lv∧H t=false then none else some v
 | .mp lv t=>if lv=s.lv∧H t=false then none else some v
 | .agg l=>if(l.map V.cM).all bM then some v else none
 | .imp l=>some v
 | .uq sz l=>some v
 | .fn f bg=>if bg.all (jZ s H)then some v else none
 | v=>if bM v.cM then some v else none
def ar8 (s:ab) (H:Nat→Bool):List Nat→Option (Nat→V)
 | []=>some bH
 | t::l=>match lO s H (s.t t),ar8 s H l with
   | some v,some f=>some (ae f t v)
   | _,_=>none
def asd (s:ab) (H:Nat→Bool):ax→Option ax
 | .box cs=>(e0 (lO s H) cs).map .box
 | .dir sz l=>if(l.map V.flat).flatten.all (ar0 s H)then some (.dir sz l)else none
 | ob=>some ob
def tX (s:ab) (H:Nat→Bool):List Nat→Option (Nat→Option ax)
 | []=>some bk
 | t::l=>match (s.b t).bind (asd s H),tX s H l with
   | some ob,some f=>some (ae f t (some ob))
   | _,_=>none
def wz (H:Hint):List cJ→wh
 | .eZ i::_=>(H.loops.find? (·.eZ==i)).getD ⟨0,[],[]⟩
 | _=>⟨0,[],[]⟩
def wA (s:ab):List Nat→List Nat
 | []=>[]
 | t::l=>match s.b t with
   | some (.dir _ _)=>t::wA s l
   | _=>wA s l
def tY (s:ab) (H:Nat→Bool) (D:List Nat):Prop:=∀t,jY D t=true→∀ob,s.b t=some ob→∃sz l,ob=.dir sz l∧(l.map V.flat).flatten.all (ar0 s H)=true
noncomputable def eS (D:List Nat) (b g:Nat→Option ax):Nat→Option ax:=fun t=>if jY D t then b t else g t
noncomputable def qS (objs D:List Nat) (t:Nat):Bool:=aG t objs||jY D t
open Classical in
noncomputable def y6 (s:ab) (h:wh):List Nat→Option ab
 | []=>match ar8 s (qS h.objs []) h.mq,tX s (qS h.objs []) h.objs with
   | some f,some g=>some {s with t:=f,b:=g}
   | _,_=>none
 | d::D=>match ar8 s (qS h.objs (d::D)) h.mq,tX s (qS h.objs (d::D)) h.objs with
   | some f,some g=>if tY s (qS h.objs (d::D)) (d::D)then some {s with t:=f,b:=eS (d::D) s.b g}else none
   | _,_=>none
noncomputable def canon (s:ab) (h:wh):Option ab:=y6 s h (wA s h.objs)
theorem FH (t:Nat):jY [] t=false:=by
 cases h:jY [] t with
 | false=>rfl
 | true=>have:=((By _ _).1 h).2;cases this
theorem r6 (objs D:List Nat) (t:Nat):qS objs D t=(aG t objs||jY D t):=by unfold qS;rfl
noncomputable def gv (E:Env):List cJ→ab→Out
 | [],s=>match oZ E.P s with
   | some (v,s1)=>.done v s1.o
   | none=>.fail
 | .eZ _::k,s=>.go k s
 | .ops [] _::k,s=>.go k s
 | .ops (o::l) all::k,s=>
   let run:Out:=match o.op with
    | .call {callee:=.value f,args,argTypes}=>gC E o.dst f args argTypes (.ops l all::k) s
    | _=>match jx E.P (E.H s.f) o s with
      | some bb=>.go (.ops l all::k) bb
      | none=>.fail
   match o.guard with
   | none=>run
   | some (j,want)=>match ((all[j]?).bind (·.dst)).map s.t with
     | some (.bool b)=>if b=want then run else .go (.ops l all::k) (s.cV o.dst (.tup []))
     | some (.tup [])=>.go (.ops l all::k) (s.cV o.dst (.tup []))
     | _=>.fail
 | .jf c::k,s=>match canon s (wz (E.H s.f) k)with
   | some bb=>.go (.code c::.jf c::k) bb
   | none=>.fail
 | .code c::k,s=>match c with
   | .skip=>.go k s
   | .region id ops wB=>if wB=false then .go (.ops ops.toList ops::k) s else if ar7 E.P (E.H s.f) ops (ix (E.H s.f) id ops.size) (m4 (E.H s.f) id)then .draw ops (ix (E.H s.f) id ops.size) (m4 (E.H s.f) id) k s else .fail
   | .seq a b=>.go (.code a::.code b::k) s
   | .cond x a b=>match s.aM E.P 0 x with
     | .bool v=>if v then .go (.code a::k) s else .go (.code b::k) s
     | _=>.fail
   | .block i c=>.go (.code c::.eZ i::k) s
   | .loop c=>.go (.jf c::k) s
   | .exit i=>match jU i k with
     | some bI=>.go bI s
     | none=>.fail
   | .ret=>.go [] s
   | _=>.fail
noncomputable def cA (E:Env):Nat→List cJ→ab→Option (V×List (Nat→Option ax))
 | 0,_,_=>none
 | n+1,cb,s=>match gv E cb s with
   | .go k bb=>cA E n k bb
   | .done v o=>some (v,o)
   | .fail=>none
   | .draw ops c alt k bb=>match jX E (cA E n) ops c alt bb with
     | some s2=>cA E n k s2
     | none=>none
   | .call f args outer plain d k bb=>match gZ E f args outer with
     | none=>none
     | some (cf,bE)=>match cA E n cf bE with
       | none=>none
       | some r=>cA E n k (h1 bb plain d r.1 r.2)
def gg (ev gh:ds):Prop:=∀cb s r,ev cb s=some r→gh cb s=some r
theorem Bz {E:Env} {ev gh:ds} (h:gg ev gh) {out:Out} {bb:ab} (al:eC E ev out=some bb):eC E gh out=some bb:=by
 cases out with
 | go k s1=>exact al
 | done v o=>exact al
 | draw ops c alt k s1=>exact al
 | fail=>exact al
 | call f args outer plain d k s1=>
   unfold eC at al⊢
   dsimp only at al⊢
   split at al
   ·cases al
   ·split at al
    ·cases al
    ·rename_i J
     rw[h _ _ _ J]
     exact al
theorem BA {E:Env} {ev gh:ds} (h:gg ev gh) {o:Oper} {s bb:ab} (al:eL E ev o s=some bb):eL E gh o s=some bb:=by
 unfold eL at al⊢
 split
 ·rename_i dt
  rw[dt]at al
  exact Bz h al
 ·rename_i aY
  split at al
  ·rename_i e;exact absurd e (aY _ _ _)
  ·exact al
theorem Mb {E:Env} {ev gh:ds} (h:gg ev gh) {o:Oper} {s:ab} {v:V} (al:eb E ev o s=some v):eb E gh o s=some v:=by
 unfold eb at al⊢
 split
 ·rename_i dt
  rw[dt]at al
  exact al
 ·rename_i f args tys dt
  rw[dt]at al
  dsimp only at al
  split
  ·rename_i g vs Mc J aa
   rw[J,aa]at al
   dsimp only at al
   split
   ·rename_i ah
    rw[if_pos ah]at al
    split
    ·rename_i arL;rw[arL]at al;exact al
    ·rename_i arL
     rw[arL]at al
     dsimp only at al
     split
     ·rename_i bn
      rw[bn]at al
      obtain⟨r,aI,he⟩:=Option.map_eq_some_iff.1 al
      rw[h _ _ _ aI]
      exact congrArg some he
     ·rename_i bn;rw[bn]at al;exact al
   ·rename_i ah;rw[if_neg ah]at al;exact al
  ·rename_i J
   split at al
   ·rename_i aR a7;exact absurd a7 (J _ _ _ aR)
   ·exact al
 ·rename_i J aa
  split at al
  ·rename_i e;exact absurd e (J _ _)
  ·rename_i e;exact absurd e (aa _ _ _)
  ·exact al
theorem FI {d:Option Nat} {s:ab} {x y:Option ab} {v:V} (h:∀s1,x=some s1→y=some s1) (arL:gf d s x=some v):gf d s y=some v:=by
 cases x with
 | none=>cases arL
 | some s1=>rw[h s1 rfl];exact arL
theorem BB {E:Env} {ev gh:ds} (h:gg ev gh) {o:Oper} {s:ab} {v:V} (arL:fB E ev o s=some v):fB E gh o s=some v:=by
 unfold fB at arL⊢
 split
 ·rename_i f args tys dt
  rw[dt]at arL
  dsimp only at arL
  by_cases ad:gB o.dst (E.H s.f).fI=true
  ·rw[if_pos ad]at arL⊢
   exact FI (fun s1 J=>Bz h J) arL
  rw[if_neg ad]at arL⊢
  split at arL
  ·rename_i ah
   rw[if_pos ah]
   exact FI (fun s1 J=>Bz h J) arL
  ·cases arL
 ·rename_i aY
  split at arL
  ·rename_i e;exact absurd e (aY _ _ _)
  ·exact arL
theorem still_mono {E:Env} {ev gh:ds} (h:gg ev gh) {all:Array Oper} {i:Nat} {s:ab}:∀{l:List (Nat×V)},still E ev all i s l=true→still E gh all i s l=true:=by
 intro l
 induction l with
 | nil=>intro _;rfl
 | cons p l ag=>
   intro al
   obtain⟨k,v⟩:=p
   unfold still at al⊢
   rw[Bool.and_eq_true]at al⊢
   refine⟨?_,ag al.2⟩
   have J:=al.1
   rw[Bool.or_eq_true]at J⊢
   rcases J with J | J
   ·exact .inl J
   ·refine .inr ?_
    split at J
    ·split at J
     ·rename_i ai
      rw[if_pos (BB h ai)]
     ·cases J
    ·cases J
theorem FJ {E:Env} {ev gh:ds} (h:gg ev gh) {all:Array Oper} {i:Nat} {s:ab} {done:List (Nat×V)} {r} (al:c1 E ev all i s done=some r):c1 E gh all i s done=some r:=by
 unfold c1 at al⊢
 split
 ·rename_i e;rw[e]at al;exact al
 ·rename_i o e
  rw[e]at al
  dsimp only at al
  split
  ·rename_i g;rw[g]at al;exact al
  ·rename_i g;rw[g]at al;exact al
  ·rename_i g
   rw[g]at al
   dsimp only at al
   by_cases U:cl E.P (E.H s.f) o=true
   ·rw[if_pos U]at al⊢
    by_cases aw:(fJ E.P o s&&fr s o)=true
    ·rw[if_pos aw]at al⊢
     obtain⟨v,arL,he⟩:=Option.map_eq_some_iff.1 al
     rw[Mb h arL]
     exact congrArg some he
    ·rw[if_neg aw]at al;cases al
   ·rw[if_neg U]at al⊢
    by_cases ai:dj (E.H s.f) o=true
    ·rw[if_pos ai]at al⊢
     by_cases aw:fr s o=true
     ·rw[if_pos aw]at al⊢
      obtain⟨v,arL,he⟩:=Option.map_eq_some_iff.1 al
      rw[BB h arL]
      exact congrArg some he
     ·rw[if_neg aw]at al;cases al
    ·rw[if_neg ai]at al⊢
     split at al
     ·rename_i s1 J
      rw[BA h J]
      dsimp only
      split at al
      ·rename_i cQ
       rw[if_pos (still_mono h cQ)]
       exact al
      ·cases al
     ·cases al
theorem tZ {E:Env} {ev gh:ds} (h:gg ev gh) {all:Array Oper}:∀{c:List Nat} {s:ab} {done:List (Nat×V)} {r},gE E ev all c s done=some r→gE E gh all c s done=some r:=by
 intro c
 induction c with
 | nil=>intro s done r al;exact al
 | cons i c ag=>
   intro s done r al
   obtain⟨x,J,aa⟩:=Option.bind_eq_some_iff.1 al
   exact Option.bind_eq_some_iff.2 ⟨x,FJ h J,ag aa⟩
theorem BC {E:Env} {ev gh:ds} (h:gg ev gh) {all:Array Oper} {s s1 r:ab}:∀{alts:List (Nat×Nat×List Nat)},qR E ev all s s1 alts=some r→qR E gh all s s1 alts=some r:=by
 intro alts
 induction alts with
 | nil=>exact id
 | cons x l ag=>
   intro al
   obtain⟨_,_,c⟩:=x
   obtain⟨y,J,aa⟩:=Option.bind_eq_some_iff.1 al
   obtain⟨z,ar,aP⟩:=Option.bind_eq_some_iff.1 aa
   exact Option.bind_eq_some_iff.2 ⟨y,tZ h J,Option.bind_eq_some_iff.2 ⟨z,ar,ag aP⟩⟩
theorem BD {E:Env} {ev gh:ds} (h:gg ev gh) {all:Array Oper} {c:List Nat} {alt:List (Nat×Nat×List Nat)} {s:ab} {r:ab} (al:jX E ev all c alt s=some r):jX E gh all c alt s=some r:=by
 unfold jX at al⊢
 split at al
 ·exact tZ h al
 ·obtain⟨x,J,aa⟩:=Option.bind_eq_some_iff.1 al
  exact Option.bind_eq_some_iff.2 ⟨x,tZ h J,BC h aa⟩
theorem gg.up {eM:Nat→ds} (hb:∀n,gg (eM n) (eM (n+1))) {n m:Nat} (h:n≤m):gg (eM n) (eM m):=by
 induction h with
 | refl=>exact fun _ _ _ h=>h
 | step _ ag=>exact fun cb s r aI=>hb _ _ _ _ (ag _ _ _ aI)
theorem Md {E:Env} {eM:Nat→ds} {ev:ds} (hb:∀n,gg (eM n) (eM (n+1))) (ai:∀cb s r,ev cb s=some r→∃n,eM n cb s=some r) {all:Array Oper} {i:Nat} {s:ab} {done:List (Nat×V)} {r} (al:c1 E ev all i s done=some r):∃n,c1 E (eM n) all i s done=some r:=by
 have eh:∀{o:Oper} {s1:ab},eL E ev o s=some s1→∃n,eL E (eM n) o s=some s1:=by
  intro o s1 h
  unfold eL at h
  split at h
  ·rename_i f args tys dt
   have:∀n,eL E (eM n) o s=eC E (eM n) (gC E o.dst f args tys [] s):=by intro n;unfold eL;rw[dt]
   simp only[this]
   cases ah:gC E o.dst f args tys [] s with
   | go k s2=>rw[ah]at h;exact⟨0,h⟩
   | done v o=>rw[ah]at h;exact⟨0,h⟩
   | draw _ _ _ _ _=>rw[ah]at h;exact⟨0,h⟩
   | fail=>rw[ah]at h;exact⟨0,h⟩
   | call f args outer plain d k s2=>
     rw[ah]at h
     unfold eC at h⊢
     dsimp only at h⊢
     split at h
     ·cases h
     ·split at h
      ·cases h
      ·rename_i J
       obtain⟨n,aC⟩:=ai _ _ _ J
       exact⟨n,by rw[aC];exact h⟩
  ·rename_i aY
   exact⟨0,by
    unfold eL
    split
    ·rename_i e;exact absurd e (aY _ _ _)
    ·exact h⟩
 have bO:∀{o:Oper} {v:V},eb E ev o s=some v→∃n,eb E (eM n) o s=some v:=by
  intro o v h
  unfold eb at h
  split at h
  ·rename_i dt
   exact⟨0,by unfold eb;rw[dt];exact h⟩
  ·rename_i f args tys dt
   have:∀n,eb E (eM n) o s=match s.aM E.P 0 f,s.args E.P (tys.toList.zip args.toList)with
    | .fn g [],some (vs,_)=>if args.size=tys.size∧o.dst.all (fun d=>decide (d<s.n))then
     (match E.bm g vs with
     | some v=>some v
     | none=>match gZ E g vs []with
       | some (cf,bE)=>(eM n cf bE).map fun r=>iw (dQ E g o.dst s) r.1
       | none=>none)
      else none
    | _,_=>none:=by intro n;unfold eb;rw[dt]
   simp only[this]
   split at h
   ·rename_i J aa
    split at h
    ·rename_i ah
     split at h
     ·rename_i arL;exact⟨0,by rw[if_pos ah];exact h⟩
     ·rename_i arL
      split at h
      ·rename_i bn
       obtain⟨r,aI,he⟩:=Option.map_eq_some_iff.1 h
       obtain⟨n,aC⟩:=ai _ _ _ aI
       exact⟨n,by rw[if_pos ah];rw[aC];exact congrArg some he⟩
      ·cases h
    ·cases h
   ·cases h
  ·rename_i J aa
   exact⟨0,by
    unfold eb
    split
    ·rename_i e;exact absurd e (J _ _)
    ·rename_i e;exact absurd e (aa _ _ _)
    ·exact h⟩
 have hv:∀{out:Out} {s1:ab},eC E ev out=some s1→∃n,eC E (eM n) out=some s1:=by
  intro out s1 h
  cases out with
  | go k s2=>exact⟨0,h⟩
  | done v o=>exact⟨0,h⟩
  | draw _ _ _ _ _=>exact⟨0,h⟩
  | fail=>exact⟨0,h⟩
  | call f args outer plain d k s2=>
    unfold eC at h⊢
    dsimp only at h⊢
    split at h
    ·cases h
    ·split at h
     ·cases h
     ·rename_i J
      obtain⟨n,aC⟩:=ai _ _ _ J
      exact⟨n,by rw[aC];exact h⟩
 have cK:∀{o:Oper} {s:ab} {v:V},fB E ev o s=some v→∃n,fB E (eM n) o s=some v:=by
  intro o s v h
  unfold fB at h
  split at h
  ·rename_i f args tys dt
   by_cases ad:gB o.dst (E.H s.f).fI=true
   ·rw[if_pos ad]at h
    have h3:=h
    unfold gf at h
    split at h
    ·rename_i s1 J
     obtain⟨n,aC⟩:=hv J
     refine⟨n,?_⟩
     unfold fB
     rw[dt]
     dsimp only
     rw[if_pos ad,aC,←J]
     exact h3
    ·cases h
   rw[if_neg ad]at h
   split at h
   ·rename_i Me
    have h3:=h
    unfold gf at h
    split at h
    ·rename_i s1 J
     obtain⟨n,aC⟩:=hv J
     refine⟨n,?_⟩
     unfold fB
     rw[dt]
     dsimp only
     rw[if_neg ad,if_pos Me,aC,←J]
     exact h3
    ·cases h
   ·cases h
  ·rename_i aY
   refine⟨0,?_⟩
   unfold fB
   split
   ·rename_i e;exact absurd e (aY _ _ _)
   ·exact h
 have Mf:∀{s:ab} {l:List (Nat×V)},still E ev all i s l=true→∃n,still E (eM n) all i s l=true:=by
  intro s l
  induction l with
  | nil=>intro _;exact⟨0,rfl⟩
  | cons p l ag=>
    intro h
    obtain⟨k,v⟩:=p
    unfold still at h
    rw[Bool.and_eq_true]at h
    obtain⟨n,aC⟩:=ag h.2
    have J:=h.1
    rw[Bool.or_eq_true]at J
    rcases J with J | J
    ·refine⟨n,?_⟩
     unfold still
     rw[J,aC]
     rfl
    ·split at J
     ·rename_i o aj
      split at J
      ·rename_i cG
       obtain⟨m,hm⟩:=cK cG
       refine⟨max n m,?_⟩
       unfold still
       rw[still_mono (gg.up hb (Nat.le_max_left n m)) aC,aj]
       dsimp only
       rw[if_pos (BB (gg.up hb (Nat.le_max_right n m)) hm)]
       simp
      ·cases J
     ·cases J
 unfold c1 at al
 split at al
 ·cases al
 ·rename_i o e
  have:∀n,c1 E (eM n) all i s done=match ha all o s with
   | none=>none
   | some false=>some (s.cV o.dst (.tup []),done)
   | some true=>
     if cl E.P (E.H s.f) o then(if fJ E.P o s&&fr s o then(eb E (eM n) o s).map fun v=>(s.dR (E.H s.f) o v,done)else none)
     else if dj (E.H s.f) o then(if fr s o then(fB E (eM n) o s).map fun v=>(s.dR (E.H s.f) o v,(i,v)::done)else none)
     else match eL E (eM n) o s with
      | some s1=>if still E (eM n) all i s1 done then some (s1,done)else none
      | none=>none:=by intro n;unfold c1;rw[e]
  simp only[this]
  split at al
  ·cases al
  ·exact⟨0,al⟩
  ·by_cases U:cl E.P (E.H s.f) o=true
   ·simp only[if_pos U]at al⊢
    by_cases aw:(fJ E.P o s&&fr s o)=true
    ·simp only[if_pos aw]at al⊢
     obtain⟨v,arL,he⟩:=Option.map_eq_some_iff.1 al
     obtain⟨n,aC⟩:=bO arL
     exact⟨n,by rw[aC];exact congrArg some he⟩
    ·rw[if_neg aw]at al;cases al
   ·simp only[if_neg U]at al⊢
    by_cases hJ:dj (E.H s.f) o=true
    ·simp only[if_pos hJ]at al⊢
     by_cases aw:fr s o=true
     ·simp only[if_pos aw]at al⊢
      obtain⟨v,arL,he⟩:=Option.map_eq_some_iff.1 al
      obtain⟨n,aC⟩:=cK arL
      exact⟨n,by rw[aC];exact congrArg some he⟩
     ·rw[if_neg aw]at al;cases al
    ·simp only[if_neg hJ]at al⊢
     split at al
     ·rename_i s1 J
      obtain⟨n,aC⟩:=eh J
      split at al
      ·rename_i cQ
       obtain⟨m,hm⟩:=Mf cQ
       refine⟨max n m,?_⟩
       rw[BA (gg.up hb (Nat.le_max_left n m)) aC]
       dsimp only
       rw[if_pos (still_mono (gg.up hb (Nat.le_max_right n m)) hm)]
       exact al
      ·cases al
     ·cases al
theorem BE {E:Env} {eM:Nat→ds} {ev:ds} (hb:∀n,gg (eM n) (eM (n+1))) (ai:∀cb s r,ev cb s=some r→∃n,eM n cb s=some r) {all:Array Oper}:∀{c:List Nat} {s:ab} {done:List (Nat×V)} {r},gE E ev all c s done=some r→∃n,gE E (eM n) all c s done=some r:=by
 intro c
 induction c with
 | nil=>intro s done r h;exact⟨0,h⟩
 | cons i c ag=>
   intro s done r h
   obtain⟨x,J,aa⟩:=Option.bind_eq_some_iff.1 h
   obtain⟨n,aC⟩:=Md hb ai J
   obtain⟨m,hm⟩:=ag aa
   exact⟨max n m,Option.bind_eq_some_iff.2 ⟨x,FJ (gg.up hb (Nat.le_max_left n m)) aC,tZ (gg.up hb (Nat.le_max_right n m)) hm⟩⟩
theorem Mg {E:Env} {eM:Nat→ds} {ev:ds} (hb:∀n,gg (eM n) (eM (n+1))) (ai:∀cb s r,ev cb s=some r→∃n,eM n cb s=some r) {all:Array Oper} {s s1 r:ab}:∀{alts:List (Nat×Nat×List Nat)},qR E ev all s s1 alts=some r→∃n,qR E (eM n) all s s1 alts=some r:=by
 intro alts
 induction alts with
 | nil=>exact fun h=>⟨0,h⟩
 | cons x l ag=>
   intro al
   obtain⟨_,_,c⟩:=x
   obtain⟨y,J,aa⟩:=Option.bind_eq_some_iff.1 al
   obtain⟨z,ar,aP⟩:=Option.bind_eq_some_iff.1 aa
   obtain⟨n,aC⟩:=BE hb ai J
   obtain⟨m,hm⟩:=ag aP
   exact⟨max n m,Option.bind_eq_some_iff.2 ⟨y,tZ (gg.up hb (Nat.le_max_left n m)) aC,Option.bind_eq_some_iff.2 ⟨z,ar,BC (gg.up hb (Nat.le_max_right n m)) hm⟩⟩⟩
theorem Mh {E:Env} {eM:Nat→ds} {ev:ds} (hb:∀n,gg (eM n) (eM (n+1))) (ai:∀cb s r,ev cb s=some r→∃n,eM n cb s=some r) {all:Array Oper} {c:List Nat} {alt:List (Nat×Nat×List Nat)} {s:ab} {r:ab} (h:jX E ev all c alt s=some r):∃n,jX E (eM n) all c alt s=some r:=by
 unfold jX at h⊢
 split at h
 ·exact BE hb ai h
 ·obtain⟨x,J,aa⟩:=Option.bind_eq_some_iff.1 h
  obtain⟨n,aC⟩:=BE hb ai J
  obtain⟨m,hm⟩:=Mg hb ai aa
  exact⟨max n m,Option.bind_eq_some_iff.2 ⟨x,tZ (gg.up hb (Nat.le_max_left n m)) aC,BC (gg.up hb (Nat.le_max_right n m)) hm⟩⟩
theorem FK (E:Env):∀n cb s r,cA E n cb s=some r→cA E (n+1) cb s=some r:=by
 intro n
 induction n with
 | zero=>intro cb s r h;simp[cA]at h
 | succ n ag=>
   intro cb s r h
   rw[cA]at h⊢
   cases al:gv E cb s with
   | go k bb=>rw[al]at h;exact ag _ _ _ h
   | done v o=>rw[al]at h;exact h
   | fail=>rw[al]at h;exact h
   | draw ops c alt k bb=>
     rw[al]at h
     dsimp only at h⊢
     cases bn:jX E (cA E n) ops c alt bb with
     | none=>rw[bn]at h;cases h
     | some s2=>
       rw[bn]at h
       rw[BD (fun cb s r aI=>ag cb s r aI) bn]
       exact ag _ _ _ h
   | call f args outer plain d k bb=>
     rw[al]at h
     dsimp only at h⊢
     cases bn:gZ E f args outer with
     | none=>rw[bn]at h;exact h
     | some x=>
       obtain⟨cf,bE⟩:=x
       rw[bn]at h
       dsimp only at h⊢
       cases J:cA E n cf bE with
       | none=>rw[J]at h;cases h
       | some x=>
         rw[J]at h
         rw[ag _ _ _ J]
         exact ag _ _ _ h
theorem nQ (E:Env) {n m:Nat} (h:n≤m) {cb s r} (aI:cA E n cb s=some r):cA E m cb s=some r:=by
 induction h with
 | refl=>exact aI
 | step _ ag=>exact FK E _ _ _ _ ag
open Classical in
noncomputable def aX (E:Env) (cb:List cJ) (s:ab):Option (V×List (Nat→Option ax)):=
 if h:∃r,∃n,cA E n cb s=some r then some h.choose else none
noncomputable def run (E:Env) (f:Nat) (args:List V) (outer:List (Nat→Option ax)):Option (V×List (Nat→Option ax)):=
 match gZ E f args outer with
 | some x=>aX E x.1 x.2
 | none=>none
theorem lP {E:Env} {cb s r}:aX E cb s=some r↔∃n,cA E n cb s=some r:=by
 unfold aX
 constructor
 ·intro h
  split at h
  ·rename_i U
   obtain rfl:=Option.some.inj h
   exact U.choose_spec
  ·cases h
 ·rintro⟨n,aC⟩
  have U:∃r,∃n,cA E n cb s=some r:=⟨r,n,aC⟩
  rw[dif_pos U]
  obtain⟨m,hm⟩:=U.choose_spec
  have J:=nQ E (Nat.le_max_left n m) aC
  have aa:=nQ E (Nat.le_max_right n m) hm
  rw[J]at aa
  exact aa.symm
theorem BF {E:Env} {cb s its' bb} (h:∀r,(∃n,cA E n cb s=some r)↔∃n,cA E n its' bb=some r):aX E cb s=aX E its' bb:=by
 cases U:aX E cb s with
 | some r=>exact((lP.2 ((h r).1 (lP.1 U)))).symm
 | none=>
   cases aA:aX E its' bb with
   | none=>rfl
   | some r=>rw[lP.2 ((h r).2 (lP.1 aA))]at U;cases U
noncomputable def Out.aX (E:Env):Out→Option (V×List (Nat→Option ax))
 | .go k s=>aB.aX E k s
 | .done v o=>some (v,o)
 | .fail=>none
 | .draw ops c alt k s=>(jX E (aB.aX E) ops c alt s).bind fun s2=>aB.aX E k s2
 | .call f args outer plain d k s=>(run E f args outer).bind fun r=>aB.aX E k (h1 s plain d r.1 r.2)
theorem arT (E:Env) (cb:List cJ) (s:ab):aX E cb s=(gv E cb s).aX E:=by
 cases al:gv E cb s with
 | go k bb=>
   refine BF fun r=>⟨?_,?_⟩
   ·rintro⟨n,aC⟩
    cases n with
    | zero=>simp[cA]at aC
    | succ n=>rw[cA,al]at aC;exact⟨n,aC⟩
   ·rintro⟨n,aC⟩
    exact⟨n+1,by rw[cA,al];exact aC⟩
 | done v o=>exact lP.2 ⟨1,by rw[cA,al]⟩
 | fail=>
   cases U:aX E cb s with
   | none=>rfl
   | some r=>
     obtain⟨n,aC⟩:=lP.1 U
     cases n with
     | zero=>simp[cA]at aC
     | succ n=>rw[cA,al]at aC;cases aC
 | draw ops c alt k bb=>
   have hb:∀n,gg (cA E n) (cA E (n+1)):=fun n cb s r=>FK E n cb s r
   show _=(jX E (aB.aX E) ops c alt bb).bind fun s2=>aB.aX E k s2
   have J:∀s2,jX E (aB.aX E) ops c alt bb=some s2↔∃n,jX E (cA E n) ops c alt bb=some s2:=fun s2=>
    ⟨fun h=>Mh hb (fun cb s r h=>lP.1 h) h,fun⟨n,aC⟩=>BD (fun cb s r h=>lP.2 ⟨n,h⟩) aC⟩
   cases aa:jX E (aB.aX E) ops c alt bb with
   | none=>
     cases U:aB.aX E cb s with
     | none=>rfl
     | some r=>
       obtain⟨n,aC⟩:=lP.1 U
       cases n with
       | zero=>simp[cA]at aC
       | succ n=>
         rw[cA,al]at aC
         dsimp only at aC
         split at aC
         ·rename_i s2 ar
          rw[(J s2).2 ⟨n,ar⟩]at aa
          cases aa
         ·cases aC
   | some s2=>
     obtain⟨m,hm⟩:=(J s2).1 aa
     refine BF fun r=>⟨?_,?_⟩
     ·rintro⟨n,aC⟩
      cases n with
      | zero=>simp[cA]at aC
      | succ n=>
        rw[cA,al]at aC
        dsimp only at aC
        split at aC
        ·rename_i s3 ar
         have:=(J s3).2 ⟨n,ar⟩
         rw[aa]at this
         obtain rfl:=Option.some.inj this
         exact⟨n,aC⟩
        ·cases aC
     ·rintro⟨n,aC⟩
      refine⟨max n m+1,?_⟩
      rw[cA,al]
      dsimp only
      rw[BD (gg.up hb (Nat.le_max_right n m)) hm]
      exact nQ E (Nat.le_max_left n m) aC
 | call f args outer plain d k bb=>
   show _=(run E f args outer).bind _
   unfold run
   cases bn:gZ E f args outer with
   | none=>
     cases U:aX E cb s with
     | none=>rfl
     | some r=>
       obtain⟨n,aC⟩:=lP.1 U
       cases n with
       | zero=>simp[cA]at aC
       | succ n=>rw[cA,al]at aC;dsimp only at aC;rw[bn]at aC;cases aC
   | some x=>
     obtain⟨cf,bE⟩:=x
     dsimp only
     cases J:aX E cf bE with
     | none=>
       cases U:aX E cb s with
       | none=>rfl
       | some r=>
         obtain⟨n,aC⟩:=lP.1 U
         cases n with
         | zero=>simp[cA]at aC
         | succ n=>
           rw[cA,al]at aC
           dsimp only at aC
           rw[bn]at aC
           dsimp only at aC
           cases aa:cA E n cf bE with
           | none=>rw[aa]at aC;cases aC
           | some y=>rw[lP.2 ⟨n,aa⟩]at J;cases J
     | some y=>
       obtain⟨m,hm⟩:=lP.1 J
       refine BF fun r=>⟨?_,?_⟩
       ·rintro⟨n,aC⟩
        cases n with
        | zero=>simp[cA]at aC
        | succ n=>
          rw[cA,al]at aC
          dsimp only at aC
          rw[bn]at aC
          dsimp only at aC
          cases aa:cA E n cf bE with
          | none=>rw[aa]at aC;cases aC
          | some z=>
            rw[aa]at aC
            have:z=y:=by
             have aR:=nQ E (Nat.le_max_left n m) aa
             have a7:=nQ E (Nat.le_max_right n m) hm
             rw[aR]at a7
             exact Option.some.inj a7
            subst this
            exact⟨n,aC⟩
       ·rintro⟨n,aC⟩
        refine⟨max n m+1,?_⟩
        rw[cA,al]
        dsimp only
        rw[bn]
        dsimp only
        rw[nQ E (Nat.le_max_right n m) hm]
        exact nQ E (Nat.le_max_left n m) aC
noncomputable def iter (E:Env) (c:Code) (k:List cJ) (s:ab):Option (V×List (Nat→Option ax)):=aX E (.code c::.jf c::k) s
end Go.aB
