/- The equations by which a function is run through, step by step. Sizes, conditions and equality of trees; the rule for loops. A given function of which the kit has a contract: the first place of a byte. -/
import Derived.Attr
import Derived.RowKit
import Derived.IntWalk
import Derived.Lib.Bytealg
import Derived.Test.YtlecddobnippmaaGreatEvA
import Derived.Test.YtlecddobnippmaaGreatEvK
set_option linter.unusedVariables false
set_option linter.unusedSimpArgs false
namespace Go.aB
open Go
variable {E:Env} {l:List Oper} {all:Array Oper} {k:List cJ} {s:ab}
theorem Rm:aX E (.code .skip::k) s=aX E k s:=arT ..
theorem Rn (x y:Code):aX E (.code (.seq x y)::k) s=aX E (.code x::.code y::k) s:=arT ..
theorem Ro (i:Nat) (os:Array Oper):aX E (.code (.region i os false)::k) s=aX E (.ops os.toList os::k) s:=arT ..
noncomputable def jo (E:Env) (k:List cJ):Option ab→Option (V×List (Nat→Option ax))
 | some s=>aX E k s
 | none=>none
theorem H4 (i:Nat) (os:Array Oper):aX E (.code (.region i os true)::k) s=if ar7 E.P (E.H s.f) os (ix (E.H s.f) i os.size) (m4 (E.H s.f) i)=true then jo E k (jX E (aB.aX E) os (ix (E.H s.f) i os.size) (m4 (E.H s.f) i) s)else none:=by
 rw[arT]
 show Out.aX E (if ar7 E.P (E.H s.f) os (ix (E.H s.f) i os.size) (m4 (E.H s.f) i)then .draw os (ix (E.H s.f) i os.size) (m4 (E.H s.f) i) k s else .fail)=_
 split
 ·show Option.bind _ _=_
  cases jX E (aB.aX E) os (ix (E.H s.f) i os.size) (m4 (E.H s.f) i) s<;>rfl
 ·rfl
def Aa (H:Hint) (i:Nat):Bool:=(m4 H i).isEmpty
theorem Rp (i:Nat) (os:Array Oper) (h:(Aa (E.H s.f) i&&r3 E.P (E.H s.f) os (ix (E.H s.f) i os.size))=true):aX E (.code (.region i os true)::k) s=jo E k (gE E (aB.aX E) os (ix (E.H s.f) i os.size) s []):=by
 obtain⟨J,aa⟩:=Bool.and_eq_true_iff.1 h
 rw[H4]
 unfold Aa at J
 rw[List.isEmpty_iff]at J
 rw[J]
 show(if r3 E.P _ _ _=true then jo E k (gE _ _ _ _ _ _)else none)=_
 rw[if_pos aa]
theorem Rq (i:Nat) (c:Code):aX E (.code (.block i c)::k) s=aX E (.code c::.eZ i::k) s:=arT ..
theorem Rr (i:Nat):aX E (.eZ i::k) s=aX E k s:=arT ..
theorem Rs (c:Code):aX E (.code (.loop c)::k) s=aX E (.jf c::k) s:=arT ..
theorem Rt:aX E (.code .ret::k) s=aX E [] s:=arT ..
noncomputable def H5:Option (V×ab)→Option (V×List (Nat→Option ax))
 | some (v,s)=>some (v,s.o)
 | none=>none
theorem Ru (v:V):H5 (some (v,s))=some (v,s.o):=rfl
theorem Rv:aX E [] s=H5 (oZ E.P s):=by
 rw[arT]
 show Out.aX E (match oZ E.P s with | some (v,s1)=>.done v s1.o | none=>.fail)=_
 cases oZ E.P s<;>rfl
theorem Rw:aX E (.ops [] all::k) s=aX E k s:=arT ..
noncomputable def H6 (E:Env) (s:ab):Option (List cJ)→Option (V×List (Nat→Option ax))
 | some k=>aX E k s
 | none=>none
theorem Rx (k:List cJ):H6 E s (some k)=aX E k s:=rfl
theorem Ry (i:Nat):aX E (.code (.exit i)::k) s=H6 E s (jU i k):=by
 rw[arT]
 show Out.aX E (match jU i k with | some bI=>.go bI s | none=>.fail)=_
 cases jU i k<;>rfl
theorem Rz (i:Nat) (c:Code):jU i (.code c::k)=jU i k:=rfl
theorem RA (i:Nat):jU i (.ops l all::k)=jU i k:=rfl
theorem RB (i:Nat) (c:Code):jU i (.jf c::k)=jU i k:=rfl
theorem RC (i j:Nat):jU i (.eZ j::k)=if j=i then some k else jU i k:=rfl
noncomputable def u2 (E:Env) (a c:List cJ) (s:ab):V→Option (V×List (Nat→Option ax))
 | .bool v=>if v=true then aX E a s else aX E c s
 | _=>none
theorem Dn (a c:List cJ) (v:Bool):u2 E a c s (.bool v)=if v=true then aX E a s else aX E c s:=rfl
theorem RD (x:Operand) (c d:Code):aX E (.code (.cond x c d)::k) s=u2 E (.code c::k) (.code d::k) s (s.aM E.P 0 x):=by
 rw[arT]
 show Out.aX E (match s.aM E.P 0 x with | .bool v=>if v then .go (.code c::k) s else .go (.code d::k) s | _=>.fail)=_
 cases s.aM E.P 0 x<;>try rfl
 rename_i v;cases v<;>rfl
noncomputable def H7 (E:Env) (c:Code) (k:List cJ):Option ab→Option (V×List (Nat→Option ax))
 | some s=>iter E c k s
 | none=>none
theorem RE (c:Code):H7 E c k (some s)=iter E c k s:=rfl
theorem RF (c:Code):aX E (.jf c::k) s=H7 E c k (canon s (wz (E.H s.f) k)):=by
 rw[arT]
 show Out.aX E (match canon s (wz (E.H s.f) k)with | some bb=>.go (.code c::.jf c::k) bb | none=>.fail)=_
 cases canon s (wz (E.H s.f) k)<;>rfl
noncomputable def re (E:Env) (k:List cJ):Option ab→Option (V×List (Nat→Option ax))
 | some s=>aX E k s
 | none=>none
theorem RG:re E k (some s)=aX E k s:=rfl
theorem RH:re E k none=none:=rfl
theorem RI {p:Prop} [Decidable p] (x y:Option ab):re E k (if p then x else y)=if p then re E k x else re E k y:=by split<;>rfl
noncomputable def px (E:Env) (o:Oper) (l:List Oper) (all:Array Oper) (k:List cJ) (s:ab) (want:Bool):Option V→Option (V×List (Nat→Option ax))
 | some (.bool v)=>if v=want then aX E (.ops (o::l) all::k) s else aX E (.ops l all::k) (s.cV o.dst (.tup []))
 | some (.tup [])=>aX E (.ops l all::k) (s.cV o.dst (.tup []))
 | _=>none
theorem RJ (o:Oper) (want:Bool):px E o l all k s want (some (.tup []))=aX E (.ops l all::k) (s.cV o.dst (.tup [])):=rfl
def Ab (all:Array Oper) (t:Nat→V) (j:Nat):Option V:=((all[j]?).bind (·.dst)).map t
theorem RL (os:List Oper) (t:Nat→V) (j:Nat):Ab os.toArray t j=((os[j]?).bind (·.dst)).map t:=by simp[Ab]
theorem H8 (o:Oper) (av:o.guard=none) (h:∀f a b,o.op≠.call {callee:=.value f,args:=a,argTypes:=b}):
 aX E (.ops (o::l) all::k) s=re E (.ops l all::k) (jx E.P (E.H s.f) o s):=by
 rw[arT]
 have:gv E (.ops (o::l) all::k) s=(match jx E.P (E.H s.f) o s with
  | some bb=>.go (.ops l all::k) bb
  | none=>.fail):=by
  unfold gv
  dsimp only
  rw[av]
  dsimp only
  split
  ·rename_i e;exact absurd e (h _ _ _)
  ·rfl
 rw[this]
 cases jx E.P (E.H s.f) o s<;>rfl
theorem RM (d:Option Tmp) (op:Op) (ty:TypeId) (pos:String) (bx:Array Edge) (j:Nat) (want:Bool):
 aX E (.ops ({dst:=d,op:=op,type:=ty,pos:=pos,after:=bx,guard:=some (j,want)}::l) all::k) s=
  px E {dst:=d,op:=op,type:=ty,pos:=pos,after:=bx,guard:=none} l all k s want (Ab all s.t j):=by
 rw[arT]
 have gi:aX E (.ops ({dst:=d,op:=op,type:=ty,pos:=pos,after:=bx,guard:=none}::l) all::k) s=
  Out.aX E (gv E (.ops ({dst:=d,op:=op,type:=ty,pos:=pos,after:=bx,guard:=none}::l) all::k) s):=arT ..
 have:gv E (.ops ({dst:=d,op:=op,type:=ty,pos:=pos,after:=bx,guard:=some (j,want)}::l) all::k) s=
  (match Ab all s.t j with
   | some (.bool b)=>if b=want then gv E (.ops ({dst:=d,op:=op,type:=ty,pos:=pos,after:=bx,guard:=none}::l) all::k) s else .go (.ops l all::k) (s.cV d (.tup []))
   | some (.tup [])=>.go (.ops l all::k) (s.cV d (.tup []))
   | _=>.fail):=rfl
 rw[this]
 unfold px
 split
 ·split
  ·rw[gi]
  ·rfl
 ·rfl
 ·rfl
def b7 (c:Nat):V→Option V
 | .ptr lv u off=>some (.ptr lv u (off+c))
 | .imp l=>some (.imp (l.drop c))
 | _=>none
theorem RN (c lv u off:Nat):b7 c (.ptr lv u off)=some (.ptr lv u (off+c)):=rfl
theorem RO (c:Nat) (l:List V):b7 c (.imp l)=some (.imp (l.drop c)):=rfl
def b9 (c n:Nat) (ju:Bool):V→Option V
 | .agg l=>if c+n≤l.length∧n≠0 then some (pack ju ((l.drop c).take n))else none
 | _=>none
theorem RP (c n:Nat) (ju:Bool) (l:List V):b9 c n ju (.agg l)=if c+n≤l.length∧n≠0 then some (pack ju ((l.drop c).take n))else none:=rfl
def gn (P:Program) (t:TypeId):Option (List (TypeId×Nat×Nat)):=match P.underlying t with
 | some (.struct bW)=>if bW.toList.all (fun f=>az P f.type != 0)then some (bW.toList.map fun f=>(f.type,f.offset,az P f.type))else none
 | _=>none
def fu (P:Program) (L:List (TypeId×Nat×Nat)):ab→List V→List (Nat×Operand)→Option (List V×ab)
 | s,cs,[]=>some (cs,s)
 | s,cs,(i,x)::ps=>match L[i]? with
   | some (dH,off,sz)=>if(s.all P dH x).flat.length=sz∧off+(s.all P dH x).flat.length≤cs.length then(match s.all P dH x with
    | .tup _ | .undef=>none
    | _=>fu P L (s.drop x) (eg cs off (s.all P dH x).flat) ps)else none
   | none=>none
def fU:Option (List V×ab)→Option (V×ab)
 | some r=>some (.agg r.1,r.2)
 | none=>none
theorem RQ (l:List V) (s:ab):fU (some (l,s))=some (.agg l,s):=rfl
theorem RR:fU none=none:=rfl
theorem RS {P:Program} {bW:Array Field}:∀(ps:List (Nat×Operand)) (s:ab) (cs:List V),jg P bW s cs ps=fu P (bW.toList.map fun f=>(f.type,f.offset,az P f.type)) s cs ps:=by
 intro ps
 induction ps with
 | nil=>intro s cs;rfl
 | cons p ps ag=>
   intro s cs
   obtain⟨i,x⟩:=p
   unfold jg fu
   rw[List.getElem?_map,Array.getElem?_toList]
   cases bW[i]? with
   | none=>rfl
   | some f=>
     dsimp only[Option.map_some]
     split
     ·split
      ·rename_i h;rw[h]
      ·rename_i h;rw[h]
      ·rename_i J aa
       rw[ag]
       split
       ·rename_i h;exact absurd h (J _)
       ·rename_i h;exact absurd h aa
       ·rfl
     ·rfl
theorem gK {P:Program} {H:Hint} {d:Nat} {ty t:TypeId} {ps:Array (Nat×Operand)} {s:ab} {L:List (TypeId×Nat×Nat)} {z:List V} (h:gn P t=some L) (aD:zero P t=some z):bw P H d ty (.build t ps) s=fU (fu P L s z ps.toList):=by
 unfold gn at h
 unfold bw
 dsimp only
 split at h
 ·rename_i bW hu
  rw[hu,aD]
  dsimp only
  split at h
  ·rename_i ah
   obtain rfl:=Option.some.inj h
   rw[if_pos ah,RS]
   cases fu P (bW.toList.map fun f=>(f.type,f.offset,az P f.type)) s z ps.toList<;>rfl
  ·cases h
 ·cases h
section ops
variable {d:Nat} {ty:TypeId} {pos:String} {bx:Array Edge}
noncomputable def fV (E:Env) (d:Nat) (k:List cJ):Option (V×ab)→Option (V×List (Nat→Option ax))
 | some (v,s)=>aX E k (s.put d v)
 | none=>none
theorem RT (v:V):fV E d k (some (v,s))=aX E k (s.put d v):=rfl
theorem RU {p:Prop} [Decidable p] (x y:Option (V×ab)):fV E d k (if p then x else y)=if p then fV E d k x else fV E d k y:=by split<;>rfl
theorem RV:fV E d k none=none:=rfl
theorem hT (op:Op) (h:∀f a b,op≠.call {callee:=.value f,args:=a,argTypes:=b}):
 aX E (.ops ({dst:=some d,op:=op,type:=ty,pos:=pos,after:=bx,guard:=none}::l) all::k) s=if d<s.n then fV E d (.ops l all::k) (bw E.P (E.H s.f) d ty op s)else none:=by
 rw[H8 _ rfl h]
 show re E _ (if d<s.n then(bw E.P (E.H s.f) d ty op s).map fun r=>r.2.put d r.1 else none)=_
 split
 ·cases bw E.P (E.H s.f) d ty op s<;>rfl
 ·rfl
noncomputable def mJ (E:Env) (k:List cJ) (s:ab) (plain:Bool×Bool×Bool) (d:Option Nat):Option (V×List (Nat→Option ax))→Option (V×List (Nat→Option ax))
 | some r=>aX E k (h1 s plain d r.1 r.2)
 | none=>none
theorem RW (plain:Bool×Bool×Bool) (d:Option Nat) (v:V) (o:List (Nat→Option ax)):mJ E k s plain d (some (v,o))=aX E k (h1 s plain d v o):=rfl
theorem RX (u:Bool) (d:Nat) (v:V) (o:List (Nat→Option ax)):h1 s (true,u,false) (some d) v o=s.put d (iw u v):=rfl
theorem RY (u:Bool) (d:Nat) (v:V) (o:List (Nat→Option ax)):h1 s (true,u,true) (some d) v o=s.put d (if v.free&&v.qQ then v else .undef):=rfl
theorem RZ (u:Bool) (d:Nat) (v:V) (b:Nat→Option ax) (o:List (Nat→Option ax)):h1 s (false,u,false) (some d) v (b::o)={s.put d (iw u v)with b:=b,o:=o}:=rfl
theorem R0 (v:V):iw false v=v:=rfl
theorem R1 (v:V):iw true v=v.settle:=rfl
noncomputable def xB (E:Env) (g:Nat) (vs:List V) (k:List cJ) (s:ab) (d:Option Nat):Option V→Option (V×List (Nat→Option ax))
 | some v=>aX E k (s.cV d v)
 | none=>mJ E k s (true,dQ E g d s,false) d (run E g vs [])
theorem R2 (g:Nat) (vs:List V) (d:Option Nat):xB E g vs k s d none=mJ E k s (true,dQ E g d s,false) d (run E g vs []):=rfl
theorem R3 (g:Nat) (vs:List V) (d:Option Nat) (v:V):xB E g vs k s d (some v)=aX E k (s.cV d v):=rfl
noncomputable def H9 (E:Env) (d:Option Nat) (k:List cJ):V→Option (List V×ab)→Option (V×List (Nat→Option ax))
 | .fn g bg,some (vs,s1)=>if((vs++bg).any isRef||!bg.isEmpty)=true then mJ E k s1 (false,dQ E g d s1,false) d (run E g (vs++bg) (s1.b::s1.o))else xB E g (vs++bg) k s1 d (E.bm g (vs++bg))
 | _,_=>none
theorem R4 (g:Nat) (bg vs:List V) (d:Option Nat):H9 E d k (.fn g bg) (some (vs,s))=if((vs++bg).any isRef||!bg.isEmpty)=true then mJ E k s (false,dQ E g d s,false) d (run E g (vs++bg) (s.b::s.o))else xB E g (vs++bg) k s d (E.bm g (vs++bg)):=rfl
noncomputable def Ia (E:Env) (d:Option Nat) (k:List cJ) (s:ab):V→Option (List V)→Option (V×List (Nat→Option ax))
 | .fn g [],some vs=>mJ E k s (true,false,true) d (run E g vs [])
 | _,_=>none
theorem R5 (g:Nat) (vs:List V) (d:Option Nat):Ia E d k s (.fn g []) (some vs)=mJ E k s (true,false,true) d (run E g vs []):=rfl
noncomputable def Ib (E:Env) (d:Option Nat) (k:List cJ):V→Option (List V×ab)→Option (V×List (Nat→Option ax))
 | .fn g [],some (vs,s1)=>mJ E k s1 (false,dQ E g d s1,false) d (run E g vs (s1.b::s1.o))
 | _,_=>none
theorem R6 (g:Nat) (vs:List V) (d:Option Nat):Ib E d k (.fn g []) (some (vs,s))=mJ E k s (false,dQ E g d s,false) d (run E g vs (s.b::s.o)):=rfl
theorem R7 {f:Operand} {args:Array Operand} {tys:Array TypeId}:
 aX E (.ops ({dst:=some d,op:=.call {callee:=.value f,args:=args,argTypes:=tys},type:=ty,pos:=pos,after:=bx,guard:=none}::l) all::k) s=
  if aG d (E.H s.f).fI=true then(if args.size=tys.size∧d<s.n then Ia E (some d) (.ops l all::k) s (s.aM E.P 0 f) (s.gb E.P (tys.toList.zip args.toList))else none)
  else if aG d (E.H s.f).iL=true then(if args.size=tys.size∧d<s.n then Ib E (some d) (.ops l all::k) (s.aM E.P 0 f) (s.hI E.P (tys.toList.zip args.toList))else none)
  else if args.size=tys.size∧d<s.n then H9 E (some d) (.ops l all::k) (s.aM E.P 0 f) (s.args E.P (tys.toList.zip args.toList))else none:=by
 rw[arT]
 show Out.aX E (gC E (some d) f args tys (.ops l all::k) s)=_
 unfold gC
 have aw:(args.size=tys.size∧Option.all (fun d=>decide (d<s.n)) (some d)=true)↔(args.size=tys.size∧d<s.n):=by simp
 by_cases ad:aG d (E.H s.f).fI=true
 ·rw[if_pos ad,if_pos (show gB (some d) (E.H s.f).fI=true from ad)]
  unfold m3
  by_cases ah:args.size=tys.size∧d<s.n
  ·rw[if_pos ah]
   cases s.aM E.P 0 f with
   | fn g bg=>
     cases bg with
     | cons _ _=>cases s.gb E.P (tys.toList.zip args.toList)<;>rfl
     | nil=>
       cases s.gb E.P (tys.toList.zip args.toList)with
       | none=>rfl
       | some vs=>
         dsimp only
         rw[if_pos (aw.2 ah)]
         show Option.bind _ _=mJ E _ s (true,false,true) (some d) (run E g vs [])
         cases run E g vs []<;>rfl
   | _=>rfl
  ·rw[if_neg ah]
   cases s.aM E.P 0 f with
   | fn g bg=>
     cases bg with
     | cons _ _=>cases s.gb E.P (tys.toList.zip args.toList)<;>rfl
     | nil=>
       cases s.gb E.P (tys.toList.zip args.toList)with
       | none=>rfl
       | some vs=>dsimp only;rw[if_neg fun h=>ah (aw.1 h)];rfl
   | _=>rfl
 rw[if_neg ad,if_neg (show ¬gB (some d) (E.H s.f).fI=true from ad)]
 by_cases ai:aG d (E.H s.f).iL=true
 ·rw[if_pos ai,if_pos (show gB (some d) (E.H s.f).iL=true from ai)]
  unfold tV
  by_cases ah:args.size=tys.size∧d<s.n
  ·rw[if_pos ah]
   cases s.aM E.P 0 f with
   | fn g bg=>
     cases bg with
     | cons _ _=>cases s.hI E.P (tys.toList.zip args.toList)<;>rfl
     | nil=>
       cases s.hI E.P (tys.toList.zip args.toList)with
       | none=>rfl
       | some r=>
         obtain⟨vs,s1⟩:=r
         dsimp only
         rw[if_pos (aw.2 ah)]
         show Option.bind _ _=mJ E _ s1 (false,dQ E g (some d) s1,false) (some d) (run E g vs (s1.b::s1.o))
         cases run E g vs (s1.b::s1.o)<;>rfl
   | _=>rfl
  ·rw[if_neg ah]
   cases s.aM E.P 0 f with
   | fn g bg=>
     cases bg with
     | cons _ _=>cases s.hI E.P (tys.toList.zip args.toList)<;>rfl
     | nil=>
       cases s.hI E.P (tys.toList.zip args.toList)with
       | none=>rfl
       | some r=>obtain⟨vs,s1⟩:=r;dsimp only;rw[if_neg fun h=>ah (aw.1 h)];rfl
   | _=>rfl
 rw[if_neg ai,if_neg (show ¬gB (some d) (E.H s.f).iL=true from ai)]
 unfold jy
 by_cases ah:args.size=tys.size∧d<s.n
 ·rw[if_pos ah]
  cases s.aM E.P 0 f with
  | fn g bg=>
    cases s.args E.P (tys.toList.zip args.toList)with
    | none=>rfl
    | some r=>
      obtain⟨vs,s1⟩:=r
      dsimp only
      rw[if_pos (aw.2 ah)]
      show _=if((vs++bg).any isRef||!bg.isEmpty)=true then mJ E _ s1 (false,dQ E g (some d) s1,false) (some d) (run E g (vs++bg) (s1.b::s1.o))else xB E g (vs++bg) _ s1 (some d) (E.bm g (vs++bg))
      split
      ·show Option.bind _ _=_
       cases run E g (vs++bg) (s1.b::s1.o)<;>rfl
      ·cases E.bm g (vs++bg)with
       | some v=>rfl
       | none=>
         show Option.bind _ _=mJ E _ s1 (true,dQ E g (some d) s1,false) (some d) (run E g (vs++bg) [])
         cases run E g (vs++bg) []<;>rfl
  | _=>rfl
 ·rw[if_neg ah]
  cases s.aM E.P 0 f with
  | fn g bg=>
    cases s.args E.P (tys.toList.zip args.toList)with
    | none=>rfl
    | some r=>obtain⟨vs,s1⟩:=r;dsimp only;rw[if_neg fun h=>ah (aw.1 h)];rfl
  | _=>rfl
theorem R8 (x:Operand):aX E (.ops ({dst:=some d,op:=.move x,type:=ty,pos:=pos,after:=bx,guard:=none}::l) all::k) s=if d<s.n then fV E d (.ops l all::k) (bw E.P (E.H s.f) d ty (.move x) s)else none:=hT _ (by intro _ _ _ h;cases h)
theorem R9 (x:Operand):aX E (.ops ({dst:=some d,op:=.assign x,type:=ty,pos:=pos,after:=bx,guard:=none}::l) all::k) s=if d<s.n then fV E d (.ops l all::k) (bw E.P (E.H s.f) d ty (.assign x) s)else none:=hT _ (by intro _ _ _ h;cases h)
theorem Sa (x y z:Operand):aX E (.ops ({dst:=some d,op:=.pick x y z,type:=ty,pos:=pos,after:=bx,guard:=none}::l) all::k) s=if d<s.n then fV E d (.ops l all::k) (bw E.P (E.H s.f) d ty (.pick x y z) s)else none:=hT _ (by intro _ _ _ h;cases h)
theorem Sb (t:TypeId):aX E (.ops ({dst:=some d,op:=.alloc t,type:=ty,pos:=pos,after:=bx,guard:=none}::l) all::k) s=if d<s.n then fV E d (.ops l all::k) (bw E.P (E.H s.f) d ty (.alloc t) s)else none:=hT _ (by intro _ _ _ h;cases h)
theorem Sc (t:TypeId) (x:Operand):aX E (.ops ({dst:=some d,op:=.box t x,type:=ty,pos:=pos,after:=bx,guard:=none}::l) all::k) s=if d<s.n then fV E d (.ops l all::k) (bw E.P (E.H s.f) d ty (.box t x) s)else none:=hT _ (by intro _ _ _ h;cases h)
theorem Sd (t:TypeId) (ps:Array (Nat×Operand)):aX E (.ops ({dst:=some d,op:=.build t ps,type:=ty,pos:=pos,after:=bx,guard:=none}::l) all::k) s=if d<s.n then fV E d (.ops l all::k) (bw E.P (E.H s.f) d ty (.build t ps) s)else none:=hT _ (by intro _ _ _ h;cases h)
theorem Se (t:TypeId) (n:Nat) (ps:Array (Nat×Operand)):aX E (.ops ({dst:=some d,op:=.buildSlice t n ps,type:=ty,pos:=pos,after:=bx,guard:=none}::l) all::k) s=if d<s.n then fV E d (.ops l all::k) (bw E.P (E.H s.f) d ty (.buildSlice t n ps) s)else none:=hT _ (by intro _ _ _ h;cases h)
theorem Sf (t:TypeId) (x:Operand):aX E (.ops ({dst:=some d,op:=.load t x,type:=ty,pos:=pos,after:=bx,guard:=none}::l) all::k) s=if d<s.n then fV E d (.ops l all::k) (bw E.P (E.H s.f) d ty (.load t x) s)else none:=hT _ (by intro _ _ _ h;cases h)
theorem Sg (x:Operand):aX E (.ops ({dst:=some d,op:=.nilCheck x,type:=ty,pos:=pos,after:=bx,guard:=none}::l) all::k) s=if d<s.n then fV E d (.ops l all::k) (bw E.P (E.H s.f) d ty (.nilCheck x) s)else none:=hT _ (by intro _ _ _ h;cases h)
theorem Sh (o:BinOp) (t u:TypeId) (x y:Operand):aX E (.ops ({dst:=some d,op:=.binOp o t x y u,type:=ty,pos:=pos,after:=bx,guard:=none}::l) all::k) s=if d<s.n then fV E d (.ops l all::k) (bw E.P (E.H s.f) d ty (.binOp o t x y u) s)else none:=hT _ (by intro _ _ _ h;cases h)
theorem Si (o:UnOp) (t:TypeId) (x:Operand):aX E (.ops ({dst:=some d,op:=.unOp o t x,type:=ty,pos:=pos,after:=bx,guard:=none}::l) all::k) s=if d<s.n then fV E d (.ops l all::k) (bw E.P (E.H s.f) d ty (.unOp o t x) s)else none:=hT _ (by intro _ _ _ h;cases h)
theorem Sj (t u:TypeId) (x:Operand):aX E (.ops ({dst:=some d,op:=.convert t u x,type:=ty,pos:=pos,after:=bx,guard:=none}::l) all::k) s=if d<s.n then fV E d (.ops l all::k) (bw E.P (E.H s.f) d ty (.convert t u x) s)else none:=hT _ (by intro _ _ _ h;cases h)
theorem Sk (f:Fn) (a c:Array Operand):aX E (.ops ({dst:=some d,op:=.makeFunc f a c,type:=ty,pos:=pos,after:=bx,guard:=none}::l) all::k) s=if d<s.n then fV E d (.ops l all::k) (bw E.P (E.H s.f) d ty (.makeFunc f a c) s)else none:=hT _ (by intro _ _ _ h;cases h)
theorem Sl (t:TypeId) (r:Option Operand):aX E (.ops ({dst:=some d,op:=.makeMap t r,type:=ty,pos:=pos,after:=bx,guard:=none}::l) all::k) s=if d<s.n then fV E d (.ops l all::k) (bw E.P (E.H s.f) d ty (.makeMap t r) s)else none:=hT _ (by intro _ _ _ h;cases h)
theorem Sm (t:TypeId) (x y:Operand):aX E (.ops ({dst:=some d,op:=.makeSlice t x y,type:=ty,pos:=pos,after:=bx,guard:=none}::l) all::k) s=if d<s.n then fV E d (.ops l all::k) (bw E.P (E.H s.f) d ty (.makeSlice t x y) s)else none:=hT _ (by intro _ _ _ h;cases h)
theorem Sn (t:TypeId) (x:Operand) (a c m:Option Operand):aX E (.ops ({dst:=some d,op:=.slice t x a c m,type:=ty,pos:=pos,after:=bx,guard:=none}::l) all::k) s=if d<s.n then fV E d (.ops l all::k) (bw E.P (E.H s.f) d ty (.slice t x a c m) s)else none:=hT _ (by intro _ _ _ h;cases h)
theorem So (t:TypeId) (x:Operand) (f:Nat):aX E (.ops ({dst:=some d,op:=.fieldAddr t x f,type:=ty,pos:=pos,after:=bx,guard:=none}::l) all::k) s=if d<s.n then fV E d (.ops l all::k) (bw E.P (E.H s.f) d ty (.fieldAddr t x f) s)else none:=hT _ (by intro _ _ _ h;cases h)
theorem Sp (t:TypeId) (x:Operand) (f:Nat):aX E (.ops ({dst:=some d,op:=.field t x f,type:=ty,pos:=pos,after:=bx,guard:=none}::l) all::k) s=if d<s.n then fV E d (.ops l all::k) (bw E.P (E.H s.f) d ty (.field t x f) s)else none:=hT _ (by intro _ _ _ h;cases h)
theorem Sq (t:TypeId) (x i:Operand):aX E (.ops ({dst:=some d,op:=.indexAddr t x i,type:=ty,pos:=pos,after:=bx,guard:=none}::l) all::k) s=if d<s.n then fV E d (.ops l all::k) (bw E.P (E.H s.f) d ty (.indexAddr t x i) s)else none:=hT _ (by intro _ _ _ h;cases h)
theorem Sr (t:TypeId) (x i:Operand):aX E (.ops ({dst:=some d,op:=.index t x i,type:=ty,pos:=pos,after:=bx,guard:=none}::l) all::k) s=if d<s.n then fV E d (.ops l all::k) (bw E.P (E.H s.f) d ty (.index t x i) s)else none:=hT _ (by intro _ _ _ h;cases h)
theorem Ss (t:TypeId) (x i:Operand) (o:Bool):aX E (.ops ({dst:=some d,op:=.lookup t x i o,type:=ty,pos:=pos,after:=bx,guard:=none}::l) all::k) s=if d<s.n then fV E d (.ops l all::k) (bw E.P (E.H s.f) d ty (.lookup t x i o) s)else none:=hT _ (by intro _ _ _ h;cases h)
theorem St (x:Operand) (i:Nat):aX E (.ops ({dst:=some d,op:=.extract x i,type:=ty,pos:=pos,after:=bx,guard:=none}::l) all::k) s=if d<s.n then fV E d (.ops l all::k) (bw E.P (E.H s.f) d ty (.extract x i) s)else none:=hT _ (by intro _ _ _ h;cases h)
theorem Su (b:Builtin) (a:Array Operand) (c:Array TypeId):aX E (.ops ({dst:=some d,op:=.call {callee:=.builtin b,args:=a,argTypes:=c},type:=ty,pos:=pos,after:=bx,guard:=none}::l) all::k) s=if d<s.n then fV E d (.ops l all::k) (bw E.P (E.H s.f) d ty (.call {callee:=.builtin b,args:=a,argTypes:=c}) s)else none:=hT _ (by intro _ _ _ h;cases h)
theorem Sv (op:Op) (h:∀f a b,op≠.call {callee:=.value f,args:=a,argTypes:=b}):aX E (.ops ({dst:=none,op:=op,type:=ty,pos:=pos,after:=bx,guard:=none}::l) all::k) s=re E (.ops l all::k) (gu E.P (E.H s.f) op s):=H8 _ rfl h
theorem run_eq (E:Env) (f:Nat) (args:List V) (outer:List (Nat→Option ax)) {fn:Func} {c:Code} (aJ:E.P.funcs[f]?=some fn) (aC:(fn.name== "runtime.NumGoroutine")=false) (ad:fn.body=some c) (ai:args.length≤fn.ntmps):run E f args outer=aX E [.code c] {t:=m1 0 args,b:=bk,o:=outer,r:=fn.results,f:=f,n:=fn.ntmps}:=by
 unfold run gZ
 rw[aJ]
 simp only[ai,aC,ad,and_self,if_true,Option.map_some]
theorem Ic {k4:Type} {E:Env} {c:Code} {k:List cJ} (S:k4→ab) (R:k4→Option (V×List (Nat→Option ax))) (ow:k4→Nat) (h:∀x,(∀y,ow y<ow x→iter E c k (S y)=R y)→aX E (.code c::.jf c::k) (S x)=R x) (x:k4):iter E c k (S x)=R x:=by
 suffices ∀n x,ow x≤n→iter E c k (S x)=R x from this _ x (Nat.le_refl _)
 intro n
 induction n with
 | zero=>intro x U;exact h x fun y aA=>absurd aA (by omega)
 | succ n ag=>intro x U;exact h x fun y aA=>ag y (by omega)
theorem Sw {α β:Type} {p:Prop} [Decidable p] (f:α→β) (x y:Option α):Option.map f (if p then x else y)=if p then Option.map f x else Option.map f y:=by split<;>rfl
theorem Sx (n:Nat):(0≤(n:Int))=True:=by simp
end ops
attribute [go_sem] Sw Sx Rm Rn Ro Rq Rr Rs Rt Rv Rw Ry RD RF RM R7 RT RU RV bw.eq_def Ru Rx RE RG RH RI RJ R4 R5 R6 RY R2 R3 RW RX RZ R0 R1 dQ V.settle V.nN V.je yN wj oY rX e1 fA jw hr tT kv hs pO lK lM m2 jW yP Rz RA RB RC aG ab.put ab.cV ab.aM ab.all ab.drop qK L8 L9 rd oW V.view V.cM m1 ab.args ab.arg ab.tree ab.c2 tree bM isRef wi arith wk isStr hp yV oX wm canon ar8 tX lO.eq_def wz oZ tU RL List.find? List.zip List.zipWith List.map List.any List.all List.append_nil List.cons_append List.nil_append List.isEmpty_nil Bool.or_false Bool.not_true Bool.false_eq_true if_false if_true Nat.reduceEqDiff Nat.reduceLT ne_eq reduceCtorEq not_false_eq_true implies_true beq_self_eq_true Option.map_some Option.map_none Option.getD_some and_self true_and and_true Option.bind_some Nat.reduceBEq Nat.reduceLeDiff List.length_cons List.length_nil Nat.zero_add Nat.reduceAdd List.size_toArray decide_eq_true_eq R8 R9 Sa Sb Sc Sd Se Sf Sg Sh Si Sj Sk Sl Sm Sn So Sp Sq Sr Ss St Su Sv Option.map_none e0
attribute [go_sem] lL pP wq yX h0 V.hand V.rU nO yQ ab.gb ab.pR ab.hI ab.r1 ab.r0 FD jt
end Go.aB
namespace Go.aB
open Go Go.RowKit
mutual
def ee:V→Nat
 | .str s=>s.size
 | .slc _ _ l=>l.length+kE l
 | .agg l=>kE l
 | _=>0
def kE:List V→Nat
 | []=>0
 | a::l=>ee a+kE l
end
mutual
def Ac:V→Prop
 | .str s=>s.size≤9223372036854775807
 | .int k n=>(Lit.int k n).wf=true
 | .slc _ _ l=>l.length≤9223372036854775807∧sW l
 | .agg l=>sW l
 | _=>True
def sW:List V→Prop
 | []=>True
 | a::l=>Ac a∧sW l
end
def kF:V→Bool
 | .bool _ | .int .. | .str _ | .slc .. | .agg _=>true
 | _=>false
mutual
def iC:V→V→Bool
 | .bool a,.bool b=>a==b
 | .int _ a,.int _ b=>a==b
 | .str a,.str b=>a.toList==b.toList
 | .slc _ _ l,.slc _ _ m=>u3 l m
 | .agg l,.agg m=>u3 l m
 | a,b=>!kF a&&!kF b
def u3:List V→List V→Bool
 | [],[]=>true
 | a::l,b::m=>iC a b&&u3 l m
 | _,_=>false
end
mutual
theorem Sy:∀v:V,iC v v=true
 | .bool a=>by simp only[iC,beq_self_eq_true]
 | .int k a=>by simp only[iC,beq_self_eq_true]
 | .str s=>by simp only[iC,beq_self_eq_true]
 | .slc o z l=>by simp only[iC];exact Dp l
 | .uq a b=>by simp[iC,kF]
 | .nw a=>by simp[iC,kF]
 | .agg l=>by simp only[iC];exact Dp l
 | .undef=>by simp[iC,kF]
 | .tup l=>by simp[iC,kF]
 | .ptr a b c=>by simp[iC,kF]
 | .imp l=>by simp[iC,kF]
 | .gA a b c d=>by simp[iC,kF]
 | .bS a b c=>by simp[iC,kF]
 | .hn a b c=>by simp[iC,kF]
 | .ho a b c=>by simp[iC,kF]
 | .mp a b=>by simp[iC,kF]
 | .fn a b=>by simp[iC,kF]
 | .dD=>by simp[iC,kF]
 | .bK=>by simp[iC,kF]
theorem Dp:∀l:List V,u3 l l=true
 | []=>by simp only[u3]
 | a::l=>by simp only[u3,Sy a,Dp l,Bool.and_self]
end
def leftOf (n:Nat) (left:Int):Int:=if(n:Int)≤left then left-n else -1
def aqZ (v:V) (left:Int):Int:=leftOf (ee v) left
def aq0 (l:List V) (left:Int):Int:=leftOf (kE l) left
theorem u4 {n:Nat} {left:Int} (h:(n:Int)≤left):leftOf n left=left-n:=if_pos h
theorem u5 {n:Nat} {left:Int} (h:¬(n:Int)≤left):leftOf n left= -1:=if_neg h
def I (n:Int):V:=.int .i64 n
def B (b:Bool):V:=.bool b
def Sz (s:ByteArray):V:=.str s
def eE (l:List Int):V:=.slc false 1 (l.map I)
def xC (s:ByteArray) (c:Int):Int:=Go.Lib.indexByte s.data.toList c.toNat.toUInt8
def Dq:List V→Option V
 | [.str s,.int .u8 c]=>some (.int .i64 (xC s c))
 | _=>none
theorem hC {n:Int} (h: -9223372036854775808≤n) (aZ:n≤9223372036854775807):IntKind.i64.wrap n=n:=IntWalk.i64_in n ⟨h,aZ⟩
theorem cr {n:Nat} (h:n<9223372036854775807):IntKind.i64.wrap ((n:Int)+1)=((n+1:Nat):Int):=by
 rw[hC (by omega) (by omega)];rfl
theorem SA:IntKind.i64.wrap 0=0:=by decide
theorem SB:IntKind.i64.wrap 1=1:=by decide
theorem SC (n:Nat) (h:n≤9223372036854775807):IntKind.i64.wrap (no_index (OfNat.ofNat n):Int)=(OfNat.ofNat n:Int):=by
 show IntKind.i64.wrap (n:Int)=(n:Int)
 exact hC (by omega) (by omega)
theorem iter_eq {E:Env} {c:Code} {k:List cJ} {s:ab}:iter E c k s=aX E (.code c::.jf c::k) s:=rfl
theorem SD {α:Type}:(#[]:Array α).isEmpty=true:=rfl
theorem SE:(false==true)=false:=rfl
theorem SF:(true==false)=false:=rfl
theorem cz {k4:Type} {E:Env} {c:Code} {k:List cJ} (I:k4→Prop) (S:k4→ab) (R:k4→Option (V×List (Nat→Option ax))) (ow:k4→Nat) (h:∀x,I x→(∀y,I y→ow y<ow x→iter E c k (S y)=R y)→aX E (.code c::.jf c::k) (S x)=R x) (x:k4) (U:I x):iter E c k (S x)=R x:=by
 suffices ∀n x,I x→ow x≤n→iter E c k (S x)=R x from this _ x U (Nat.le_refl _)
 intro n
 induction n with
 | zero=>intro x ic U;exact h x ic fun y aA aL=>absurd aL (by omega)
 | succ n ag=>intro x ic U;exact h x ic fun y aA aL=>ag y aA (by omega)
theorem getD_map {α:Type} {f:α→V} {l:List α} {i:Nat} (h:i<l.length) (d:V):(l.map f).getD i d=f l[i]:=by
 simp[List.getD_eq_getElem?_getD,List.getElem?_eq_getElem h]
theorem toNat_cast (n:Nat):(n:Int).toNat=n:=Int.toNat_natCast n
def fill {α:Type} (f:α→V) (l:List α) (d:V) (i:Nat):List V:=(l.take i).map f++List.replicate (l.length-i) d
theorem Dr {α:Type} (f:α→V) (l:List α) (d:V):fill f l d 0=List.replicate l.length d:=rfl
theorem xD {α:Type} (f:α→V) (l:List α) (d:V) {i:Nat} (h:i≤l.length):(fill f l d i).length=l.length:=by simp[fill];omega
theorem Ad {α:Type} (f:α→V) (l:List α) (d:V):fill f l d l.length=l.map f:=by simp[fill]
theorem u6 {α:Type} (f:α→V) (l:List α) (d:V) {i:Nat} (h:i<l.length) (v:V) (arL:v=f l[i]):(fill f l d i).set i v=fill f l d (i+1):=by
 subst arL
 unfold fill
 have aC:l.length-i=(l.length-(i+1))+1:=by omega
 rw[List.set_append_right _ _ (by simp;omega),aC]
 have:i-((l.take i).map f).length=0:=by simp;omega
 rw[this,List.replicate_succ,List.set_cons_zero,←List.take_append_getElem h,List.map_append,List.append_assoc]
 rfl
noncomputable def xE (E:Env) (k:List cJ) (all:Array Oper) (c:List Nat) (s:ab) (done:List (Nat×V)):Option (V×List (Nat→Option ax)):=jo E k (gE E (aB.aX E) all c s done)
noncomputable def u7 (E:Env) (k:List cJ) (all:Array Oper) (c:List Nat):Option (ab×List (Nat×V))→Option (V×List (Nat→Option ax))
 | some (s,done)=>xE E k all c s done
 | none=>none
section
variable {E:Env} {k:List cJ} {all:Array Oper} {c:List Nat} {s:ab} {done:List (Nat×V)}
theorem SG:xE E k all [] s done=aX E k s:=rfl
theorem SH (i:Nat):xE E k all (i::c) s done=u7 E k all c (c1 E (aB.aX E) all i s done):=by
 show jo E k (Option.bind _ _)=_
 cases h:c1 E (aB.aX E) all i s done with
 | none=>rfl
 | some r=>rfl
theorem SI:u7 E k all c (some (s,done))=xE E k all c s done:=rfl
theorem SJ:u7 E k all c none=none:=rfl
theorem SK {p:Prop} [Decidable p] (x y:Option (ab×List (Nat×V))):u7 E k all c (if p then x else y)=if p then u7 E k all c x else u7 E k all c y:=by split<;>rfl
theorem arR (i:Nat) {os:Array Oper} (h:(Aa (E.H s.f) i&&r3 E.P (E.H s.f) os (ix (E.H s.f) i os.size))=true):aX E (.code (.region i os true)::k) s=xE E k os (ix (E.H s.f) i os.size) s []:=by
 rw[Rp _ _ h]
 rfl
end
theorem pU (v:V):v.view.view=v.view:=by
 cases v<;>try rfl
 rename_i l
 simp only[V.view,List.map_map]
 congr 2
 funext x
 cases x<;>rfl
theorem set_nil (t:Nat→V) (d:Nat) (v:V):cW t [] [] (some d) v=ae t d v:=by
 funext x
 unfold cW ae
 by_cases h:x=d
 ·subst h;simp
 ·have:¬(d=x):=fun e=>h e.symm
  simp[h,this,aG]
theorem SL (t:Nat→V) (a d:Nat) (D:List Nat) (v:V):cW t (a::D) [] (some d) v=cW (ae t a (t a).view) D [] (some d) v:=by
 funext x
 unfold cW
 by_cases h:d=x
 ·subst h;simp
 ·simp only[Option.some.injEq,h,if_false,aG,ae]
  by_cases U:x=a
  ·subst U
   simp[pU]
  ·simp[U]
theorem SM (t:Nat→V) (a d:Nat) (v:V):cW t [] [a] (some d) v=ae (ae t a (t a).cut) d v:=by
 funext x
 unfold cW ae
 by_cases h:d=x
 ·subst h;simp
 ·have aZ:¬x=d:=fun e=>h e.symm
  simp only[Option.some.injEq,h,aZ,if_false,aG]
  by_cases U:x=a
  ·subst U;simp[aG]
  ·simp[U,aG]
noncomputable def xF (E:Env) (g:Nat) (vs:List V) (u:Bool):Option V→Option V
 | some v=>some v
 | none=>(run E g vs []).map fun r=>iw u r.1
theorem SN (g:Nat) (vs:List V) (u:Bool) {E:Env}:xF E g vs u none=(run E g vs []).map fun r=>iw u r.1:=rfl
theorem SO (g:Nat) (vs:List V) (u:Bool) (v:V) {E:Env}:xF E g vs u (some v)=some v:=rfl
noncomputable def Ie (E:Env) (d:Option Nat) (n:Nat) (sz:Bool) (bE:ab):V→Option (List V×ab)→Option V
 | .fn g [],some (vs,_)=>if sz=true∧d.all (fun d=>decide (d<n))=true then xF E g vs (dQ E g d bE) (E.bm g vs)else none
 | _,_=>none
theorem SP (g:Nat) (vs:List V) (d:Option Nat) (n:Nat) (sz:Bool) (s bE:ab) {E:Env}:Ie E d n sz bE (.fn g []) (some (vs,s))=if sz=true∧d.all (fun d=>decide (d<n))=true then xF E g vs (dQ E g d bE) (E.bm g vs)else none:=rfl
theorem SQ {E:Env} {s:ab} {d:Option Nat} {f:Operand} {args:Array Operand} {tys:Array TypeId} {ty:TypeId} {pos:String} {bx:Array Edge} {g:Option (Nat×Bool)}:
 eb E (aB.aX E) {dst:=d,op:=.call {callee:=.value f,args:=args,argTypes:=tys},type:=ty,pos:=pos,after:=bx,guard:=g} s=
  Ie E d s.n (args.size==tys.size) s (s.aM E.P 0 f) (s.args E.P (tys.toList.zip args.toList)):=by
 unfold eb
 dsimp only
 cases s.aM E.P 0 f with
 | fn g bg=>
   cases bg with
   | nil=>
     cases s.args E.P (tys.toList.zip args.toList)with
     | none=>rfl
     | some r=>
       obtain⟨vs,s1⟩:=r
       show _=if _ then _ else _
       simp only[beq_iff_eq]
       split
       ·unfold xF run
        cases E.bm g vs with
        | some v=>rfl
        | none=>
          dsimp only
          cases gZ E g vs []with
          | none=>rfl
          | some x=>rfl
       ·rfl
   | cons a l=>rfl
 | _=>rfl
theorem sX {α:Type} {f:α→V} {l:List α} {a:α} (h:a∈l):ee (f a)≤kE (l.map f):=by
 induction l with
 | nil=>cases h
 | cons b l ag=>
   rw[List.map_cons,kE]
   rcases List.mem_cons.1 h with rfl | h
   ·omega
   ·have:=ag h;omega
theorem qf {E:Env} {a c:List cJ} {s:ab} {R:Option (V×List (Nat→Option ax))} {p:Prop} [Decidable p] (J:p→aX E a s=R) (aa:¬p→aX E c s=R):u2 E a c s (.bool (decide p))=R:=by
 rw[Dn]
 by_cases h:p
 ·rw[if_pos (decide_eq_true h)];exact J h
 ·rw[if_neg (by simpa using h)];exact aa h
theorem Ae {E:Env} {a c:List cJ} {s:ab} {R:Option (V×List (Nat→Option ax))} {v:Bool} (J:v=true→aX E a s=R) (aa:v=false→aX E c s=R):u2 E a c s (.bool v)=R:=by
 rw[Dn]
 cases v
 ·exact aa rfl
 ·exact J rfl
theorem py {E:Env} {o:Oper} {l:List Oper} {all:Array Oper} {k:List cJ} {s:ab} {w v:Bool} {R:Option (V×List (Nat→Option ax))} (J:v=true→px E o l all k s w (some (.bool true))=R) (aa:v=false→px E o l all k s w (some (.bool false))=R):px E o l all k s w (some (.bool v))=R:=by
 cases v
 ·exact aa rfl
 ·exact J rfl
theorem SR {E:Env} {a c:List cJ} {s:ab}:u2 E a c s (.bool true)=aX E a s:=rfl
theorem SS {E:Env} {a c:List cJ} {s:ab}:u2 E a c s (.bool false)=aX E c s:=rfl
theorem SU {E:Env} {o:Oper} {l:List Oper} {all:Array Oper} {k:List cJ} {s:ab}:px E o l all k s true (some (.bool true))=aX E (.ops (o::l) all::k) s:=rfl
theorem SV {E:Env} {o:Oper} {l:List Oper} {all:Array Oper} {k:List cJ} {s:ab}:px E o l all k s false (some (.bool false))=aX E (.ops (o::l) all::k) s:=rfl
theorem SW {E:Env} {o:Oper} {l:List Oper} {all:Array Oper} {k:List cJ} {s:ab}:px E o l all k s true (some (.bool false))=aX E (.ops l all::k) (s.cV o.dst (.tup [])):=rfl
theorem SX {E:Env} {o:Oper} {l:List Oper} {all:Array Oper} {k:List cJ} {s:ab}:px E o l all k s false (some (.bool true))=aX E (.ops l all::k) (s.cV o.dst (.tup [])):=rfl
attribute [go_sem] SD u8 Option.isSome_some Option.isSome_none Nat.reduceMul Nat.reduceSub List.set_cons_zero List.set_cons_succ List.set_nil Bool.true_or Bool.or_true Bool.false_or List.isEmpty_cons List.headD_cons List.tail_cons jZ y6 wA r6 FH Nat.reduceBNe Nat.reduceBEq RQ RR fu SE SF wv SA SB SC Int.reduceLT Int.reduceLE Int.reduceAdd Int.reduceSub Int.reduceMul Int.reduceEq Int.reduceBEq Int.reduceBNe yM yR yO pN yS yT yW tS qL qM jg ab.trees m0 yL wo rZ SR SS SU SV SW SX V.ite
section
variable {E:Env} {ev:ds} {s:ab} {d:Option Nat} {ty:TypeId} {pos:String} {bx:Array Edge} {g:Option (Nat×Bool)}
theorem SY (x:Operand):eb E ev {dst:=d,op:=.move x,type:=ty,pos:=pos,after:=bx,guard:=g} s=(bw E.P (E.H s.f) (d.getD 0) ty (.move x) s).map (·.1):=rfl
theorem SZ (x:Operand):eb E ev {dst:=d,op:=.assign x,type:=ty,pos:=pos,after:=bx,guard:=g} s=(bw E.P (E.H s.f) (d.getD 0) ty (.assign x) s).map (·.1):=rfl
theorem S0 (x y z:Operand):eb E ev {dst:=d,op:=.pick x y z,type:=ty,pos:=pos,after:=bx,guard:=g} s=(bw E.P (E.H s.f) (d.getD 0) ty (.pick x y z) s).map (·.1):=rfl
theorem S1 (u:TypeId) (ps:Array (Nat×Operand)):eb E ev {dst:=d,op:=.build u ps,type:=ty,pos:=pos,after:=bx,guard:=g} s=(bw E.P (E.H s.f) (d.getD 0) ty (.build u ps) s).map (·.1):=rfl
theorem S2 (u:TypeId) (m:Nat) (ps:Array (Nat×Operand)):eb E ev {dst:=d,op:=.buildSlice u m ps,type:=ty,pos:=pos,after:=bx,guard:=g} s=(bw E.P (E.H s.f) (d.getD 0) ty (.buildSlice u m ps) s).map (·.1):=rfl
theorem S3 (x:Operand):eb E ev {dst:=d,op:=.nilCheck x,type:=ty,pos:=pos,after:=bx,guard:=g} s=(bw E.P (E.H s.f) (d.getD 0) ty (.nilCheck x) s).map (·.1):=rfl
theorem S4 (b:BinOp) (u v:TypeId) (x y:Operand):eb E ev {dst:=d,op:=.binOp b u x y v,type:=ty,pos:=pos,after:=bx,guard:=g} s=(bw E.P (E.H s.f) (d.getD 0) ty (.binOp b u x y v) s).map (·.1):=rfl
theorem S5 (b:UnOp) (u:TypeId) (x:Operand):eb E ev {dst:=d,op:=.unOp b u x,type:=ty,pos:=pos,after:=bx,guard:=g} s=(bw E.P (E.H s.f) (d.getD 0) ty (.unOp b u x) s).map (·.1):=rfl
theorem S6 (u v:TypeId) (x:Operand):eb E ev {dst:=d,op:=.convert u v x,type:=ty,pos:=pos,after:=bx,guard:=g} s=(bw E.P (E.H s.f) (d.getD 0) ty (.convert u v x) s).map (·.1):=rfl
theorem S7 (u:TypeId) (x y:Operand):eb E ev {dst:=d,op:=.makeSlice u x y,type:=ty,pos:=pos,after:=bx,guard:=g} s=(bw E.P (E.H s.f) (d.getD 0) ty (.makeSlice u x y) s).map (·.1):=rfl
theorem S8 (u:TypeId) (x:Operand) (a b m:Option Operand):eb E ev {dst:=d,op:=.slice u x a b m,type:=ty,pos:=pos,after:=bx,guard:=g} s=(bw E.P (E.H s.f) (d.getD 0) ty (.slice u x a b m) s).map (·.1):=rfl
theorem S9 (u:TypeId) (x:Operand) (f:Nat):eb E ev {dst:=d,op:=.fieldAddr u x f,type:=ty,pos:=pos,after:=bx,guard:=g} s=(bw E.P (E.H s.f) (d.getD 0) ty (.fieldAddr u x f) s).map (·.1):=rfl
theorem Ta (u:TypeId) (x:Operand) (f:Nat):eb E ev {dst:=d,op:=.field u x f,type:=ty,pos:=pos,after:=bx,guard:=g} s=(bw E.P (E.H s.f) (d.getD 0) ty (.field u x f) s).map (·.1):=rfl
theorem Tb (u:TypeId) (x i:Operand):eb E ev {dst:=d,op:=.indexAddr u x i,type:=ty,pos:=pos,after:=bx,guard:=g} s=(bw E.P (E.H s.f) (d.getD 0) ty (.indexAddr u x i) s).map (·.1):=rfl
theorem Tc (u:TypeId) (x i:Operand):eb E ev {dst:=d,op:=.index u x i,type:=ty,pos:=pos,after:=bx,guard:=g} s=(bw E.P (E.H s.f) (d.getD 0) ty (.index u x i) s).map (·.1):=rfl
theorem Td (b:Builtin) (a:Array Operand) (c:Array TypeId):eb E ev {dst:=d,op:=.call {callee:=.builtin b,args:=a,argTypes:=c},type:=ty,pos:=pos,after:=bx,guard:=g} s=(bw E.P (E.H s.f) (d.getD 0) ty (.call {callee:=.builtin b,args:=a,argTypes:=c}) s).map (·.1):=rfl
theorem Te (u i:Nat):eb E ev {dst:=d,op:=.extract (.tmp u) i,type:=ty,pos:=pos,after:=bx,guard:=g} s=match s.t u with | .tup l=>(l[i]?).map (jz (E.H s.f) (d.getD 0)) | _=>none:=rfl
end
section
variable {E:Env} {ev:ds} {s:ab} {d:Option Nat} {ty:TypeId} {pos:String} {bx:Array Edge} {g:Option (Nat×Bool)}
theorem Tf (t:TypeId) (x:Operand):fB E ev {dst:=d,op:=.load t x,type:=ty,pos:=pos,after:=bx,guard:=g} s=(bw E.P (E.H s.f) (d.getD 0) ty (.load t x) s).map (·.1):=rfl
theorem Tg (t:TypeId) (x i:Operand) (o:Bool):fB E ev {dst:=d,op:=.lookup t x i o,type:=ty,pos:=pos,after:=bx,guard:=g} s=(bw E.P (E.H s.f) (d.getD 0) ty (.lookup t x i o) s).map (·.1):=rfl
end
theorem Th {p:V→Bool}:List.all [] p=true:=rfl
theorem Ti {p:V→Bool} {a:V} {l:List V}:List.all (a::l) p=(p a&&List.all l p):=rfl
theorem Tj {E:Env} {k:List cJ} {s:ab}:jo E k (some s)=aX E k s:=rfl
attribute [go_sem] ab.lv ab.ob bV ab.c6 cP V.flat hq rV RN RO RP yU pack eg List.drop_succ_cons List.drop_zero List.take_succ_cons List.take_zero List.drop_nil List.take_nil mr fS toNat_cast Th Ti List.getD_cons_zero List.getD_cons_succ List.length_map Bool.and_self Bool.true_and Bool.and_true Int.reduceNeg Int.reduceToNat Tj asd ar0 gu List.headD_cons decide_true decide_false List.map_cons List.map_nil Int.cast_ofNat_Int Int.le_refl List.length_set List.length_append List.length_replicate List.length_take List.length_drop
attribute [go_sem] Option.getD_none SG SM ji V.cut jz SH SI SJ SK c1 ha cl.eq_def dj fJ fr SQ SP SN SO SY SZ S0 S1 S2 S3 S4 S5 S6 S7 S8 S9 Ta Tb Tc Td Te Tf Tg ab.dR set_nil SL gD Bool.not_false ix List.range_succ List.range_zero tmpsOf Option.all_some List.getElem?_toArray List.getElem?_cons_zero List.getElem?_cons_succ
end Go.aB
namespace Go.aB
open Go
theorem Tk {E:Env} {N:Nat} (xG:∀g vs,E.bm g vs=if g=N then Dq vs else none) (aJ:∃fn c,E.P.funcs[N]?=some fn∧(fn.name== "runtime.NumGoroutine")=false∧fn.body=some c)
 (ah:∀(s:ByteArray) (c:Int) (w:World),Calls E.P N #[.string s,.int .u8 c] w fun e w'=>e=.returned (.int .i64 (xC s c))∧w'=w):mF E:=by
 intro g vs v h _
 rw[xG]at h
 split at h
 ·rename_i av
  subst av
  obtain⟨fn,c,J,aa,ar⟩:=aJ
  refine⟨fn,c,J,aa,ar,?_⟩
  unfold Dq at h
  split at h
  ·rename_i s b _
   obtain rfl:=Option.some.inj h
   intro S w eo ai a6 a8
   have t0:=a6 0 (by simp)
   have t1:=a6 1 (by simp)
   have e:eo=#[.string s,.int .u8 b]:=by
    match eo,ai with
    | ⟨[x,y]⟩,_=>
      simp only[List.getD_cons_zero,List.getD_cons_succ,Array.getD]at t0 t1
      cases t0
      cases t1
      rfl
   subst e
   refine(ah s b w).mono ?_
   rintro e w' ⟨rfl,rfl⟩
   refine⟨_,_,rfl,⟨fun β=>?_,Fr.refl _ _ _,rfl,fun l t ob h=>by simp[bV]at h,fun l t g h=>by omega,fun g j c h=>a8 g j c h,fun g p h=>by cases h⟩⟩
   exact aH.int .i64 _
  ·cases h
 ·cases h
end Go.aB
