/- Drawn regions whose writes come behind what was read: one operation after the other. The program's data as Lean structures, and as trees. Strings as bytes: scans, counts, letters, variables. Regular expressions: size, depth, validity. Automata with numbers for states. Lists of what is reached, in the order of a search. Rows marked and held: what the statements' last part does to memory. -/
import Derived.Laws.Strings
import Derived.Lib.LazyBuf
import Derived.Test.YtlecddobnippmaaGreatEvM
import Derived.Test.YtlecddobnippmaaGreatEvO
set_option linter.unusedVariables false
set_option linter.unusedSimpArgs false
namespace Go.aB
open Go
def pz (P:Program) (H:Hint) (all:Array Oper):List Nat→List Nat→Bool
 | _,[]=>true
 | seen,i::c=>match all[i]? with
   | some o=>if cl P H o then pz P H all seen c else if dj H o then pz P H all (i::seen) c else seen.all (fun k=>prec all all.size k i)&&pz P H all seen c
   | none=>false
noncomputable def hU (E:Env) (ev:ds) (all:Array Oper) (i:Nat) (s:ab):Option ab:=match all[i]? with
 | none=>none
 | some o=>match ha all o s with
   | none=>none
   | some false=>some (s.cV o.dst (.tup []))
   | some true=>
     if cl E.P (E.H s.f) o then(if fJ E.P o s&&fr s o then(eb E ev o s).map fun v=>s.dR (E.H s.f) o v else none)
     else if dj (E.H s.f) o then(if fr s o then(fB E ev o s).map fun v=>s.dR (E.H s.f) o v else none)
     else eL E ev o s
noncomputable def ox (E:Env) (ev:ds) (all:Array Oper):List Nat→ab→Option ab
 | [],s=>some s
 | i::c,s=>(hU E ev all i s).bind fun s1=>ox E ev all c s1
theorem Tl {E:Env} {ev:ds} {all:Array Oper} {i:Nat} {s:ab}:∀{done:List (Nat×V)},(∀p∈done,prec all all.size p.1 i=true)→still E ev all i s done=true:=by
 intro done
 induction done with
 | nil=>intro _;rfl
 | cons p done ag=>
   intro h
   obtain⟨k,v⟩:=p
   unfold still
   rw[h (k,v) (List.mem_cons_self ..),ag fun q aE=>h q (List.mem_cons_of_mem _ aE)]
   rfl
theorem Ds {E:Env} {ev:ds} {all:Array Oper}:∀(c:List Nat) (s:ab) (done:List (Nat×V)) (seen:List Nat),(∀p∈done,p.1∈seen)→pz E.P (E.H s.f) all seen c=true→gE E ev all c s done=ox E ev all c s:=by
 intro c
 induction c with
 | nil=>intro s done seen _ _;rfl
 | cons i c ag=>
   intro s done seen aw ay
   unfold gE ox
   have key:∀{s1:ab} {d1:List (Nat×V)} {Af:List Nat},c1 E ev all i s done=some (s1,d1)→hU E ev all i s=some s1→(∀p∈d1,p.1∈Af)→pz E.P (E.H s.f) all Af c=true→(c1 E ev all i s done).bind (fun r=>gE E ev all c r.1 r.2)=(hU E ev all i s).bind fun s1=>ox E ev all c s1:=by
    intro s1 d1 Af J aa ar aP
    have aJ:=xr J
    rw[J,aa]
    show gE E ev all c s1 d1=ox E ev all c s1
    exact ag s1 d1 Af ar (by rw[aJ];exact aP)
   have u9:c1 E ev all i s done=none→hU E ev all i s=none→(c1 E ev all i s done).bind (fun r=>gE E ev all c r.1 r.2)=(hU E ev all i s).bind fun s1=>ox E ev all c s1:=by
    intro J aa
    rw[J,aa]
    rfl
   unfold pz at ay
   cases aj:all[i]? with
   | none=>rw[aj]at ay;cases ay
   | some o=>
     rw[aj]at ay
     dsimp only at ay
     cases av:ha all o s with
     | none=>exact u9 (by unfold c1;rw[aj];dsimp only;rw[av]) (by unfold hU;rw[aj];dsimp only;rw[av])
     | some b=>
       cases b with
       | false=>
         have aT:c1 E ev all i s done=some (s.cV o.dst (.tup []),done):=by unfold c1;rw[aj];dsimp only;rw[av]
         have a2:hU E ev all i s=some (s.cV o.dst (.tup [])):=by unfold hU;rw[aj];dsimp only;rw[av]
         by_cases U:cl E.P (E.H s.f) o=true
         ·rw[if_pos U]at ay
          exact key aT a2 aw ay
         ·rw[if_neg U]at ay
          by_cases ai:dj (E.H s.f) o=true
          ·rw[if_pos ai]at ay
           exact key aT a2 (fun p arM=>List.mem_cons_of_mem _ (aw p arM)) ay
          ·rw[if_neg ai]at ay
           exact key aT a2 aw (Bool.and_eq_true_iff.1 ay).2
       | true=>
         by_cases U:cl E.P (E.H s.f) o=true
         ·rw[if_pos U]at ay
          by_cases ah:(fJ E.P o s&&fr s o)=true
          ·cases arL:eb E ev o s with
           | none=>exact u9 (by unfold c1;rw[aj];dsimp only;rw[av];dsimp only;rw[if_pos U,if_pos ah,arL];rfl) (by unfold hU;rw[aj];dsimp only;rw[av];dsimp only;rw[if_pos U,if_pos ah,arL];rfl)
           | some v=>exact key (by unfold c1;rw[aj];dsimp only;rw[av];dsimp only;rw[if_pos U,if_pos ah,arL];rfl) (by unfold hU;rw[aj];dsimp only;rw[av];dsimp only;rw[if_pos U,if_pos ah,arL];rfl) aw ay
          ·exact u9 (by unfold c1;rw[aj];dsimp only;rw[av];dsimp only;rw[if_pos U,if_neg ah]) (by unfold hU;rw[aj];dsimp only;rw[av];dsimp only;rw[if_pos U,if_neg ah])
         ·rw[if_neg U]at ay
          by_cases ai:dj (E.H s.f) o=true
          ·rw[if_pos ai]at ay
           by_cases ah:fr s o=true
           ·cases arL:fB E ev o s with
            | none=>exact u9 (by unfold c1;rw[aj];dsimp only;rw[av];dsimp only;rw[if_neg U,if_pos ai,if_pos ah,arL];rfl) (by unfold hU;rw[aj];dsimp only;rw[av];dsimp only;rw[if_neg U,if_pos ai,if_pos ah,arL];rfl)
            | some v=>
              refine key (d1:=(i,v)::done) (by unfold c1;rw[aj];dsimp only;rw[av];dsimp only;rw[if_neg U,if_pos ai,if_pos ah,arL];rfl) (by unfold hU;rw[aj];dsimp only;rw[av];dsimp only;rw[if_neg U,if_pos ai,if_pos ah,arL];rfl) ?_ ay
              intro p arM
              rcases List.mem_cons.1 arM with rfl | arM
              ·exact List.mem_cons_self ..
              ·exact List.mem_cons_of_mem _ (aw p arM)
           ·exact u9 (by unfold c1;rw[aj];dsimp only;rw[av];dsimp only;rw[if_neg U,if_pos ai,if_neg ah]) (by unfold hU;rw[aj];dsimp only;rw[av];dsimp only;rw[if_neg U,if_pos ai,if_neg ah])
          ·rw[if_neg ai]at ay
           obtain⟨aq,aF⟩:=Bool.and_eq_true_iff.1 ay
           have al:∀s1,still E ev all i s1 done=true:=fun s1=>Tl fun p arM=>List.all_eq_true.1 aq _ (aw p arM)
           cases arL:eL E ev o s with
           | none=>exact u9 (by unfold c1;rw[aj];dsimp only;rw[av];dsimp only;rw[if_neg U,if_neg ai,arL]) (by unfold hU;rw[aj];dsimp only;rw[av];dsimp only;rw[if_neg U,if_neg ai,arL])
           | some s1=>exact key (by unfold c1;rw[aj];dsimp only;rw[av];dsimp only;rw[if_neg U,if_neg ai,arL];dsimp only;rw[if_pos (al s1)]) (by unfold hU;rw[aj];dsimp only;rw[av];dsimp only;rw[if_neg U,if_neg ai,arL]) aw aF
noncomputable def xH (E:Env) (k:List cJ) (all:Array Oper) (c:List Nat) (s:ab):Option (V×List (Nat→Option ax)):=jo E k (ox E (aB.aX E) all c s)
noncomputable def va (E:Env) (k:List cJ) (all:Array Oper) (c:List Nat):Option ab→Option (V×List (Nat→Option ax))
 | some s=>xH E k all c s
 | none=>none
section
variable {E:Env} {k:List cJ} {all:Array Oper} {c:List Nat} {s:ab}
theorem Tm:xH E k all [] s=aX E k s:=rfl
theorem Tn (i:Nat):xH E k all (i::c) s=va E k all c (hU E (aB.aX E) all i s):=by
 show jo E k (Option.bind _ _)=_
 cases h:hU E (aB.aX E) all i s with
 | none=>rfl
 | some r=>rfl
theorem To:va E k all c (some s)=xH E k all c s:=rfl
theorem Tp:va E k all c none=none:=rfl
theorem Tq {p:Prop} [Decidable p] (x y:Option ab):va E k all c (if p then x else y)=if p then va E k all c x else va E k all c y:=by split<;>rfl
theorem arO (i:Nat) {os:Array Oper} (h:(Aa (E.H s.f) i&&r3 E.P (E.H s.f) os (ix (E.H s.f) i os.size)&&pz E.P (E.H s.f) os [] (ix (E.H s.f) i os.size))=true):aX E (.code (.region i os true)::k) s=xH E k os (ix (E.H s.f) i os.size) s:=by
 obtain⟨J,aa⟩:=Bool.and_eq_true_iff.1 h
 rw[arR i J]
 show jo E k _=jo E k _
 rw[Ds _ _ _ _ (fun p arM=>by cases arM) aa]
variable {ev:ds} {d:Option Nat} {ty:TypeId} {pos:String} {bx:Array Edge} {g:Option (Nat×Bool)}
def oy (d:Nat) (n:Nat):Option (V×ab)→Option ab
 | some (v,s)=>if d<n then some (s.put d v)else none
 | none=>none
theorem Tr (d n:Nat) (v:V):oy d n (some (v,s))=if d<n then some (s.put d v)else none:=rfl
theorem Ts (d n:Nat):oy d n none=none:=rfl
theorem put_eq (d:Nat) (op:Op) (P:Program) (H:Hint):(if d<s.n then(bw P H d ty op s).map fun r=>r.2.put d r.1 else none)=oy d s.n (bw P H d ty op s):=by
 cases bw P H d ty op s with
 | none=>split<;>rfl
 | some r=>obtain⟨v,s1⟩:=r;split<;>rename_i h<;>simp[oy,h]
theorem Tt (d:Nat) (t:TypeId):eL E ev {dst:=some d,op:=.alloc t,type:=ty,pos:=pos,after:=bx,guard:=g} s=oy d s.n (bw E.P (E.H s.f) d ty (.alloc t) s):=put_eq ..
theorem Tu (d:Nat) (t:TypeId) (x:Operand):eL E ev {dst:=some d,op:=.box t x,type:=ty,pos:=pos,after:=bx,guard:=g} s=oy d s.n (bw E.P (E.H s.f) d ty (.box t x) s):=put_eq ..
theorem Tv (d:Nat) (t:TypeId) (x:Operand):eL E ev {dst:=some d,op:=.load t x,type:=ty,pos:=pos,after:=bx,guard:=g} s=oy d s.n (bw E.P (E.H s.f) d ty (.load t x) s):=put_eq ..
theorem Tw (d:Nat) (t:TypeId) (x y:Operand):eL E ev {dst:=some d,op:=.makeSlice t x y,type:=ty,pos:=pos,after:=bx,guard:=g} s=oy d s.n (bw E.P (E.H s.f) d ty (.makeSlice t x y) s):=put_eq ..
theorem Tx (d:Nat) (t:TypeId) (m:Nat) (ps:Array (Nat×Operand)):eL E ev {dst:=some d,op:=.buildSlice t m ps,type:=ty,pos:=pos,after:=bx,guard:=g} s=oy d s.n (bw E.P (E.H s.f) d ty (.buildSlice t m ps) s):=put_eq ..
theorem Ty (d:Nat) (b:Builtin) (a:Array Operand) (c:Array TypeId):eL E ev {dst:=some d,op:=.call {callee:=.builtin b,args:=a,argTypes:=c},type:=ty,pos:=pos,after:=bx,guard:=g} s=oy d s.n (bw E.P (E.H s.f) d ty (.call {callee:=.builtin b,args:=a,argTypes:=c}) s):=put_eq ..
theorem Tz (t:TypeId) (a x:Operand):eL E ev {dst:=none,op:=.store t a x,type:=ty,pos:=pos,after:=bx,guard:=g} s=gu E.P (E.H s.f) (.store t a x) s:=rfl
noncomputable def oz (s:ab) (plain:Bool×Bool×Bool) (d:Option Nat):Option (V×List (Nat→Option ax))→Option ab
 | some r=>some (h1 s plain d r.1 r.2)
 | none=>none
theorem TA (plain:Bool×Bool×Bool) (d:Option Nat) (v:V) (o:List (Nat→Option ax)):oz s plain d (some (v,o))=some (h1 s plain d v o):=rfl
noncomputable def Ag (E:Env) (g:Nat) (vs:List V) (s:ab) (d:Option Nat):Option V→Option ab
 | some v=>some (s.cV d v)
 | none=>oz s (true,dQ E g d s,false) d (run E g vs [])
theorem TB (g:Nat) (vs:List V):Ag E g vs s d none=oz s (true,dQ E g d s,false) d (run E g vs []):=rfl
theorem TC (g:Nat) (vs:List V) (v:V):Ag E g vs s d (some v)=some (s.cV d v):=rfl
noncomputable def Ah (E:Env) (d:Option Nat):V→Option (List V×ab)→Option ab
 | .fn g bg,some (vs,s1)=>if((vs++bg).any isRef||!bg.isEmpty)=true then oz s1 (false,dQ E g d s1,false) d (run E g (vs++bg) (s1.b::s1.o))else Ag E g (vs++bg) s1 d (E.bm g (vs++bg))
 | _,_=>none
theorem Ig (g:Nat) (bg vs:List V):Ah E d (.fn g bg) (some (vs,s))=if((vs++bg).any isRef||!bg.isEmpty)=true then oz s (false,dQ E g d s,false) d (run E g (vs++bg) (s.b::s.o))else Ag E g (vs++bg) s d (E.bm g (vs++bg)):=rfl
theorem Dt (d:Nat) (g:Nat) (vs:List V) (o:List (Nat→Option ax)) (plain:Bool×Bool×Bool) (s1:ab):eC E (aB.aX E) (.call g vs o plain (some d) [] s1)=oz s1 plain (some d) (run E g vs o):=by
 unfold eC run
 dsimp only
 cases gZ E g vs o with
 | none=>rfl
 | some x=>
   obtain⟨cf,bE⟩:=x
   dsimp only
   cases aB.aX E cf bE<;>rfl
theorem Ih (d:Nat) {f:Operand} {args:Array Operand} {tys:Array TypeId}:eC E (aB.aX E) (jy E (some d) f args tys [] s)=
 if args.size=tys.size∧d<s.n then Ah E (some d) (s.aM E.P 0 f) (s.args E.P (tys.toList.zip args.toList))else none:=by
 unfold jy
 have aw:(args.size=tys.size∧Option.all (fun d=>decide (d<s.n)) (some d)=true)↔(args.size=tys.size∧d<s.n):=by simp
 have aI:∀(g:Nat) (vs:List V) (o:List (Nat→Option ax)) (plain:Bool×Bool×Bool) (s1:ab),eC E (aB.aX E) (.call g vs o plain (some d) [] s1)=oz s1 plain (some d) (run E g vs o):=by
  intro g vs o plain s1
  unfold eC run
  dsimp only
  cases gZ E g vs o with
  | none=>rfl
  | some x=>
    obtain⟨cf,bE⟩:=x
    dsimp only
    cases aB.aX E cf bE<;>rfl
 by_cases ah:args.size=tys.size∧d<s.n
 ·rw[if_pos ah]
  cases s.aM E.P 0 f with
  | fn g bg=>
    cases s.args E.P (tys.toList.zip args.toList)with
    | none=>rfl
    | some r=>
      obtain⟨vs,s1⟩:=r
      dsimp only
      rw[if_pos (aw.2 ah),Ig]
      split
      ·exact aI ..
      ·cases E.bm g (vs++bg)with
       | some v=>rfl
       | none=>exact aI ..
  | _=>rfl
 ·rw[if_neg ah]
  cases s.aM E.P 0 f with
  | fn g bg=>
    cases s.args E.P (tys.toList.zip args.toList)with
    | none=>rfl
    | some r=>obtain⟨vs,s1⟩:=r;dsimp only;rw[if_neg fun h=>ah (aw.1 h)];rfl
  | _=>rfl
noncomputable def Ai (E:Env) (d:Option Nat) (s:ab):V→Option (List V)→Option ab
 | .fn g [],some vs=>oz s (true,false,true) d (run E g vs [])
 | _,_=>none
theorem Du (d:Option Nat) (g:Nat) (vs:List V):Ai E d s (.fn g []) (some vs)=oz s (true,false,true) d (run E g vs []):=rfl
noncomputable def Ii (E:Env) (d:Option Nat):V→Option (List V×ab)→Option ab
 | .fn g [],some (vs,s1)=>oz s1 (false,dQ E g d s1,false) d (run E g vs (s1.b::s1.o))
 | _,_=>none
theorem Ij (d:Option Nat) (g:Nat) (vs:List V):Ii E d (.fn g []) (some (vs,s))=oz s (false,dQ E g d s,false) d (run E g vs (s.b::s.o)):=rfl
theorem TD (d:Nat) {f:Operand} {args:Array Operand} {tys:Array TypeId}:eC E (aB.aX E) (m3 E (some d) f args tys [] s)=if args.size=tys.size∧d<s.n then Ai E (some d) s (s.aM E.P 0 f) (s.gb E.P (tys.toList.zip args.toList))else none:=by
 have aw:(args.size=tys.size∧Option.all (fun d=>decide (d<s.n)) (some d)=true)↔(args.size=tys.size∧d<s.n):=by simp
 unfold m3
 by_cases ah:args.size=tys.size∧d<s.n
 ·rw[if_pos ah]
  cases s.aM E.P 0 f with
  | fn g bg=>
    cases bg with
    | cons _ _=>cases s.gb E.P (tys.toList.zip args.toList)<;>rfl
    | nil=>
      cases s.gb E.P (tys.toList.zip args.toList)with
      | none=>rfl
      | some vs=>
        dsimp only
        rw[if_pos (aw.2 ah),Du]
        exact Dt ..
  | _=>rfl
 ·rw[if_neg ah]
  cases s.aM E.P 0 f with
  | fn g bg=>
    cases bg with
    | cons _ _=>cases s.gb E.P (tys.toList.zip args.toList)<;>rfl
    | nil=>
      cases s.gb E.P (tys.toList.zip args.toList)with
      | none=>rfl
      | some vs=>dsimp only;rw[if_neg fun h=>ah (aw.1 h)];rfl
  | _=>rfl
theorem TE (d:Nat) {f:Operand} {args:Array Operand} {tys:Array TypeId}:eL E (aB.aX E) {dst:=some d,op:=.call {callee:=.value f,args:=args,argTypes:=tys},type:=ty,pos:=pos,after:=bx,guard:=g} s=
 if aG d (E.H s.f).fI=true then(if args.size=tys.size∧d<s.n then Ai E (some d) s (s.aM E.P 0 f) (s.gb E.P (tys.toList.zip args.toList))else none)
 else if aG d (E.H s.f).iL=true then(if args.size=tys.size∧d<s.n then Ii E (some d) (s.aM E.P 0 f) (s.hI E.P (tys.toList.zip args.toList))else none)
 else if args.size=tys.size∧d<s.n then Ah E (some d) (s.aM E.P 0 f) (s.args E.P (tys.toList.zip args.toList))else none:=by
 show eC E _ (gC E (some d) f args tys [] s)=_
 unfold gC
 have aw:(args.size=tys.size∧Option.all (fun d=>decide (d<s.n)) (some d)=true)↔(args.size=tys.size∧d<s.n):=by simp
 by_cases ad:aG d (E.H s.f).fI=true
 ·rw[if_pos ad,if_pos (show gB (some d) (E.H s.f).fI=true from ad)]
  unfold m3
  by_cases ah:args.size=tys.size∧d<s.n
  ·rw[if_pos ah]
   cases s.aM E.P 0 f with
   | fn g bg=>
     cases bg with
     | cons _ _=>cases s.gb E.P (tys.toList.zip args.toList)<;>rfl
     | nil=>
       cases s.gb E.P (tys.toList.zip args.toList)with
       | none=>rfl
       | some vs=>
         dsimp only
         rw[if_pos (aw.2 ah),Du]
         exact Dt ..
   | _=>rfl
  ·rw[if_neg ah]
   cases s.aM E.P 0 f with
   | fn g bg=>
     cases bg with
     | cons _ _=>cases s.gb E.P (tys.toList.zip args.toList)<;>rfl
     | nil=>
       cases s.gb E.P (tys.toList.zip args.toList)with
       | none=>rfl
       | some vs=>dsimp only;rw[if_neg fun h=>ah (aw.1 h)];rfl
   | _=>rfl
 rw[if_neg ad,if_neg (show ¬gB (some d) (E.H s.f).fI=true from ad)]
 by_cases ai:aG d (E.H s.f).iL=true
 ·rw[if_pos ai,if_pos (show gB (some d) (E.H s.f).iL=true from ai)]
  unfold tV
  by_cases ah:args.size=tys.size∧d<s.n
  ·rw[if_pos ah]
   cases s.aM E.P 0 f with
   | fn g bg=>
     cases bg with
     | cons _ _=>cases s.hI E.P (tys.toList.zip args.toList)<;>rfl
     | nil=>
       cases s.hI E.P (tys.toList.zip args.toList)with
       | none=>rfl
       | some r=>
         obtain⟨vs,s1⟩:=r
         dsimp only
         rw[if_pos (aw.2 ah),Ij]
         exact Dt ..
   | _=>rfl
  ·rw[if_neg ah]
   cases s.aM E.P 0 f with
   | fn g bg=>
     cases bg with
     | cons _ _=>cases s.hI E.P (tys.toList.zip args.toList)<;>rfl
     | nil=>
       cases s.hI E.P (tys.toList.zip args.toList)with
       | none=>rfl
       | some r=>obtain⟨vs,s1⟩:=r;dsimp only;rw[if_neg fun h=>ah (aw.1 h)];rfl
   | _=>rfl
 rw[if_neg ai,if_neg (show ¬gB (some d) (E.H s.f).iL=true from ai)]
 exact Ih d
theorem TF (d:Nat) {f:Operand} {args:Array Operand} {tys:Array TypeId}:fB E (aB.aX E) {dst:=some d,op:=.call {callee:=.value f,args:=args,argTypes:=tys},type:=ty,pos:=pos,after:=bx,guard:=g} s=
 if aG d (E.H s.f).fI=true then gf (some d) s (if args.size=tys.size∧d<s.n then Ai E (some d) s (s.aM E.P 0 f) (s.gb E.P (tys.toList.zip args.toList))else none)
 else if(args.toList.all fun x=>!isRef (s.aM E.P 0 x))=true then gf (some d) s (if args.size=tys.size∧d<s.n then Ah E (some d) (s.aM E.P 0 f) (s.args E.P (tys.toList.zip args.toList))else none)else none:=by
 rw[←Ih,←TD]
 rfl
theorem Ik (d:Nat) (s1:ab) (h:s1=s.put d (s1.t d)):gf (some d) s (some s1)=some (s1.t d):=by
 unfold gf
 dsimp only
 rw[if_pos h]
theorem TG (d:Nat) (v:V):gf (some d) s (some {s.put d v with b:=s.b,o:=s.o})=some v:=by
 rw[Ik]
 ·show some (ae s.t d v d)=some v
  simp[ae]
 ·show s.put d v=s.put d (ae s.t d v d)
  simp[ae]
end
noncomputable def sY (E:Env) (all:Array Oper) (bE s1:ab):List (List Nat)→Option ab
 | []=>some s1
 | c::r=>(ox E (aB.aX E) all c bE).bind fun s2=>(pT s1 s2).bind fun _=>sY E all bE s1 r
noncomputable def vb (E:Env) (k:List cJ) (all:Array Oper) (bE s1:ab) (r:List (List Nat)) (c:List Nat) (s:ab):Option (V×List (Nat→Option ax)):=jo E k ((ox E (aB.aX E) all c s).bind fun s2=>(pT s1 s2).bind fun _=>sY E all bE s1 r)
noncomputable def vc (E:Env) (k:List cJ) (all:Array Oper) (bE s1:ab) (r:List (List Nat)) (c:List Nat):Option ab→Option (V×List (Nat→Option ax))
 | some s=>vb E k all bE s1 r c s
 | none=>none
noncomputable def xI (E:Env) (k:List cJ) (all:Array Oper) (r:List (List Nat)) (bE:ab) (c:List Nat) (s:ab):Option (V×List (Nat→Option ax)):=jo E k ((ox E (aB.aX E) all c s).bind fun s1=>sY E all bE s1 r)
noncomputable def vd (E:Env) (k:List cJ) (all:Array Oper) (r:List (List Nat)) (bE:ab) (c:List Nat):Option ab→Option (V×List (Nat→Option ax))
 | some s=>xI E k all r bE c s
 | none=>none
section
variable {E:Env} {k:List cJ} {all:Array Oper} {c cu:List Nat} {r:List (List Nat)} {s bE s1:ab}
theorem TH:vb E k all bE s1 r [] s=jo E k ((pT s1 s).bind fun _=>sY E all bE s1 r):=rfl
theorem TI (i:Nat):vb E k all bE s1 r (i::c) s=vc E k all bE s1 r c (hU E (aB.aX E) all i s):=by
 show jo E k (Option.bind (Option.bind _ _) _)=_
 cases h:hU E (aB.aX E) all i s with
 | none=>rfl
 | some r=>rfl
theorem TJ:vc E k all bE s1 r c (some s)=vb E k all bE s1 r c s:=rfl
theorem TK:vc E k all bE s1 r c none=none:=rfl
theorem TL {p:Prop} [Decidable p] (x y:Option ab):vc E k all bE s1 r c (if p then x else y)=if p then vc E k all bE s1 r c x else vc E k all bE s1 r c y:=by split<;>rfl
theorem TM:xI E k all (cu::r) bE [] s=vb E k all bE s r cu bE:=rfl
theorem TN (i:Nat):xI E k all r bE (i::c) s=vd E k all r bE c (hU E (aB.aX E) all i s):=by
 show jo E k (Option.bind (Option.bind _ _) _)=_
 cases h:hU E (aB.aX E) all i s with
 | none=>rfl
 | some r=>rfl
theorem TO:vd E k all r bE c (some s)=xI E k all r bE c s:=rfl
theorem TP:vd E k all r bE c none=none:=rfl
theorem TQ {p:Prop} [Decidable p] (x y:Option ab):vd E k all r bE c (if p then x else y)=if p then vd E k all r bE c x else vd E k all r bE c y:=by split<;>rfl
theorem Dv {Q:Option (V×List (Nat→Option ax))→Prop} (h:s1=s) (aE:Q (aX E k s1)):Q (jo E k ((pT s1 s).bind fun _=>sY E all bE s1 [])):=by
 subst h
 unfold pT
 rw[if_pos rfl]
 exact aE
theorem TR {Q:Option (V×List (Nat→Option ax))→Prop} (h:s1=s) (aE:Q (vb E k all bE s1 r cu bE)):Q (jo E k ((pT s1 s).bind fun _=>sY E all bE s1 (cu::r))):=by
 subst h
 unfold pT
 rw[if_pos rfl]
 exact aE
theorem TS {alts:List (Nat×Nat×List Nat)} (h:(alts.all fun x=>pz E.P (E.H bE.f) all [] x.2.2)=true):qR E (aB.aX E) all bE s1 alts=sY E all bE s1 (alts.map (·.2.2)):=by
 induction alts with
 | nil=>rfl
 | cons x l ag=>
   obtain⟨a,b,c⟩:=x
   rw[List.all_cons,Bool.and_eq_true]at h
   show(gE E (aB.aX E) all c bE []).bind _=(ox E (aB.aX E) all c bE).bind _
   rw[Ds _ _ _ _ (fun p arM=>by cases arM) h.1]
   congr 1
   funext s2
   congr 1
   funext _
   exact ag h.2
theorem Dw (i:Nat) {os:Array Oper} {x:Nat×Nat×List Nat} {l:List (Nat×Nat×List Nat)} (aO:m4 (E.H s.f) i=x::l) (h:(ar7 E.P (E.H s.f) os (ix (E.H s.f) i os.size) (x::l)&&pz E.P (E.H s.f) os [] (ix (E.H s.f) i os.size)&&((x::l).all fun x=>pz E.P (E.H s.f) os [] x.2.2))=true):aX E (.code (.region i os true)::k) s=xI E k os ((x::l).map (·.2.2)) s (ix (E.H s.f) i os.size) s:=by
 simp only[Bool.and_eq_true]at h
 obtain⟨⟨J,aa⟩,ar⟩:=h
 rw[H4,aO,if_pos J]
 show jo E k (Option.bind _ _)=jo E k _
 rw[Ds _ _ _ _ (fun p arM=>by cases arM) aa]
 congr 1
 congr 1
 funext s1
 exact TS ar
end
attribute [go_sem] TH TI TJ TK TL TM TN TO TP TQ
attribute [go_sem] TF TG Tm Tn To Tp Tq hU Tr Ts Tt Ty Tu Tv Tw Tx Tz TE TA TB TC Ig Du Ij
end Go.aB
namespace Go.aB
open Go
structure aU where
 kind:Int
 dV:ByteArray
 args:List aU
theorem aU.lt (r:aU) {x:aU} (h:x∈r.args):SizeOf.sizeOf x<SizeOf.sizeOf r:=by
 have J:=List.sizeOf_lt_of_mem h
 cases r
 simp only[aU.mk.sizeOf_spec]
 dsimp only at J
 omega
def aU.enc (r:aU):V:=.agg [.int .i64 r.kind,.str r.dV,.slc false 3 (r.args.map aU.enc)]
 termination_by SizeOf.sizeOf r
 decreasing_by exact aU.lt _ ‹_›
theorem aU.dv (r:aU):r.enc=.agg [.int .i64 r.kind,.str r.dV,.slc false 3 (r.args.map aU.enc)]:=by rw[aU.enc]
structure ff where
 x:ByteArray
 y:ByteArray
 z:ByteArray
def ff.cells (v:ff):List V:=[.str v.x,.str v.y,.str v.z]
def ff.enc (v:ff):V:=.agg [.str v.x,.str v.y,.str v.z]
structure cD where
 a:ByteArray
 b:ByteArray
 c:ByteArray
def cD.enc (v:cD):V:=.agg [.str v.a,.str v.b,.str v.c]
structure kg where
 left:ByteArray
 right:ByteArray
 maps:List Int
def kg.enc (s:kg):V:=.agg [.str s.left,.str s.right,.slc false 1 (s.maps.map I)]
structure qg where
 kind:Int
 left:ByteArray
 right:ByteArray
 dB:aU
 coeffs:List Int
 bound:Int
def qg.enc (c:qg):V:=.agg [.int .i64 c.kind,.str c.left,.str c.right,.int .i64 c.dB.kind,.str c.dB.dV,.slc false 3 (c.dB.args.map aU.enc),.slc false 1 (c.coeffs.map I),.int .i64 c.bound]
structure bQ where
 kind:Int
 text:ByteArray
 dM:cD
 dB:aU
def bQ.enc (l:bQ):V:=.agg [.int .i64 l.kind,.str l.text,.str l.dM.a,.str l.dM.b,.str l.dM.c,.int .i64 l.dB.kind,.str l.dB.dV,.slc false 3 (l.dB.args.map aU.enc)]
structure sZ where
 code:Int
 ve:ff
 nodes:List kg
 bound:Int
def sZ.enc (a:sZ):V:=.agg [.int .i64 a.code,.str a.ve.x,.str a.ve.y,.str a.ve.z,.slc false 3 (a.nodes.map kg.enc),.int .i64 a.bound]
structure hV where
 left:ByteArray
 right:ByteArray
def hV.enc (e:hV):V:=.agg [.str e.left,.str e.right]
structure Mon where
 maps:List (List Int)
 Aj:List Int
 product:List (List Int)
def Mon.enc (m:Mon):V:=.agg [.slc false 1 (m.maps.map eE),.slc false 1 (m.Aj.map I),.slc false 1 (m.product.map eE)]
structure qh where
 Ak:hV
 Dx:Mon
 allowed:List (List Int)
def qh.enc (f:qh):V:=.agg [.str f.Ak.left,.str f.Ak.right,.slc false 1 (f.Dx.maps.map eE),.slc false 1 (f.Dx.Aj.map I),.slc false 1 (f.Dx.product.map eE),.slc false 1 (f.allowed.map eE)]
structure nu where
 name:Int
 fF:ByteArray
def nu.enc (m:nu):V:=.agg [.int .u8 m.name,.str m.fF]
structure vf where
 move:nu
 to:kg
def vf.enc (s:vf):V:=.agg [.int .u8 s.move.name,.str s.move.fF,.str s.to.left,.str s.to.right,.slc false 1 (s.to.maps.map I)]
attribute [go_sem] hV.enc Mon.enc qh.enc nu.enc vf.enc eE I
structure eQ where
 accept:List Bool
 next:List (List Int)
def eQ.enc (d:eQ):V:=.agg [.slc false 1 (d.accept.map B),.slc false 1 (d.next.map eE)]
attribute [go_sem] eQ.enc B Sz
structure s0 where
 list:List qg
def s0.enc (p:s0):V:=.agg [.slc false 8 (p.list.map qg.enc)]
structure Prog where
 lines:List bQ
def Prog.enc (p:Prog):V:=.agg [.slc false 8 (p.lines.map bQ.enc)]
structure vg where
 TT:s0
 vh:sZ
 prog:Prog
def vg.enc (s:vg):V:=.agg [.slc false 8 (s.TT.list.map qg.enc),.int .i64 s.vh.code,.str s.vh.ve.x,.str s.vh.ve.y,.str s.vh.ve.z,.slc false 3 (s.vh.nodes.map kg.enc),.int .i64 s.vh.bound,.slc false 8 (s.prog.lines.map bQ.enc)]
attribute [go_sem] s0.enc Prog.enc
attribute [go_sem] aU.dv ff.enc cD.enc kg.enc qg.enc bQ.enc sZ.enc vg.enc
end Go.aB
namespace Go.aB
open Go
theorem Al (s:ByteArray) (i:Int):0≤bC s i:=by unfold bC;split<;>omega
theorem Am (s:ByteArray) (i:Int):bC s i<256:=by
 unfold bC
 split
 ·rename_i h
  have:=(s[i.toNat]'h).toNat_lt
  omega
 ·omega
def iD (c:Int):Int:=if c=97 then 0 else if c=98 then 1 else if c=99 then 2 else -1
def isVar (c:Int):Bool:=decide (88≤c)&&decide (c≤90)
theorem TU (c:Int) (h:0≤c) (aZ:c<256):xC ⟨#[97,98,99]⟩ c=iD c:=by
 obtain⟨n,rfl⟩:∃n:Nat,c=n:=⟨c.toNat,by omega⟩
 have aC:n<256:=by omega
 unfold xC iD
 rw[Int.toNat_natCast]
 have:∀n:Fin 256,Go.Lib.indexByte (#[97,98,99]:Array UInt8).toList n.val.toUInt8=if(n.val:Int)=97 then 0 else if(n.val:Int)=98 then 1 else if(n.val:Int)=99 then 2 else -1:=by decide+kernel
 exact this ⟨n,aC⟩
def kG (p:Int→Bool) (s:ByteArray) (i:Nat):Bool:=if i<s.size then p (bC s i)&&kG p s (i+1)else true
 termination_by s.size-i
theorem An (p:Int→Bool) (s:ByteArray) {i:Nat} (h:i<s.size):kG p s i=(p (bC s i)&&kG p s (i+1)):=by rw[kG,if_pos h]
theorem Ao (p:Int→Bool) (s:ByteArray) {i:Nat} (h:¬i<s.size):kG p s i=true:=by rw[kG,if_neg h]
def Il (b:Int) (s:ByteArray) (i:Nat):Nat:=if i<s.size then(if bC s i=b then 1 else 0)+Il b s (i+1)else 0
 termination_by s.size-i
def aq1 (c:Int):Bool:=c==35||decide (0≤iD c)||isVar c
theorem TV (s:ByteArray) (a b i:Nat) (h:a+i<b) (ad:b≤s.size):bC (s.extract a b) (i:Int)=bC s ((a+i:Nat):Int):=by
 have J:i<(s.extract a b).size:=by simp;omega
 have aa:a+i<s.size:=by omega
 unfold bC
 simp only[Int.toNat_natCast,J,aa,dif_pos,ByteArray.getElem_extract]
theorem Im (s:ByteArray):s.toList=s.data.toList:=by
 unfold ByteArray.toList
 rw[ByteArray.toList_loop_eq s s.size 0 [] (by omega) (by omega)]
 simp
theorem toList_inj {a b:ByteArray}:a.toList=b.toList↔a=b:=by
 rw[Im,Im]
 constructor
 ·intro h
  exact ByteArray.ext (Array.ext' h)
 ·rintro rfl;rfl
theorem TW (a b:ByteArray):(a.toList==b.toList)=decide (a=b):=by
 by_cases h:a=b
 ·subst h;simp
 ·have:¬a.toList=b.toList:=fun e=>h (toList_inj.1 e)
  simp[h,this]
theorem toList_nil (s:ByteArray):(s.toList==(ByteArray.mk #[]).toList)=decide (s.size=0):=by
 rw[TW]
 congr 1
 apply propext
 constructor
 ·rintro rfl;rfl
 ·intro h
  apply ByteArray.ext
  exact Array.eq_empty_of_size_eq_zero h
def ext (s:ByteArray) (k:Nat):ByteArray:=s.extract k s.size
def k5 (l r:ByteArray) (k:Nat):Nat:=if k<l.size∧k<r.size∧bC l k=bC r k then k5 l r (k+1)else k
 termination_by l.size-k
theorem TX {l r:ByteArray} {k:Nat} (J:k<l.size) (aa:k<r.size) (ar:bC l k=bC r k):k5 l r k=k5 l r (k+1):=by rw[k5,if_pos ⟨J,aa,ar⟩]
theorem Io {l r:ByteArray} {k:Nat} (h:¬(k<l.size∧k<r.size∧bC l k=bC r k)):k5 l r k=k:=by rw[k5,if_neg h]
def strip (e:hV):hV:=⟨ext e.left (k5 e.left e.right 0),ext e.right (k5 e.left e.right 0)⟩
theorem Ip (a b:ByteArray):gX (a++b)=gX a++gX b:=by
 unfold gX
 rw[ByteArray.data_append]
 simp
theorem Iq (a:ByteArray):(gX a).length=a.size:=by
 unfold gX
 simp
theorem TY (s:ByteArray) (i:Nat) (h:i<s.size):gX (s.extract i (i+1))=[.int .u8 (bC s (i:Int))]:=by
 unfold gX
 rw[ByteArray.data_extract]
 have aZ:i<s.data.size:=h
 have e:(s.data.extract i (i+1)).toList=[s.data[i]]:=by
  apply List.ext_getElem
  ·simp;omega
  ·intro j J aa
   simp at J
   have:j=0:=by omega
   subst this
   simp
 rw[e]
 simp[bC,h]
 rfl
theorem TZ (l:List UInt8):e0 u8 (l.map fun b=>V.int .u8 (b.toNat:Int))=some (l.map fun b=>(b.toNat:Int)):=by
 induction l with
 | nil=>rfl
 | cons a l ag=>simp only[List.map_cons,e0,u8,ag]
theorem asj (l:List UInt8):∀r:ByteArray,(l.map fun b=>(b.toNat:Int)).foldl (fun r n=>r.push (UInt8.ofNat n.toNat)) r=r++⟨l.toArray⟩:=by
 induction l with
 | nil=>intro r;apply ByteArray.ext;simp[ByteArray.data_append]
 | cons a l ag=>
   intro r
   rw[List.map_cons,List.foldl_cons,ag]
   apply ByteArray.ext
   simp[ByteArray.data_append,ByteArray.data_push]
theorem T1 (s:ByteArray):tR (s.data.toList.map fun b=>(b.toNat:Int))=s:=by
 unfold tR
 rw[asj]
 apply ByteArray.ext
 simp[ByteArray.data_append]
theorem T2 (s:ByteArray):e0 u8 (gX s)=some (s.data.toList.map fun b=>(b.toNat:Int)):=TZ _
def one (s:ByteArray) (i:Nat):ByteArray:=s.extract i (i+1)
theorem Ap (s:ByteArray) (i:Nat) (h:i<s.size):(one s i).size=1:=by unfold one;simp;omega
def k6 (fF:Nat→ByteArray) (s:ByteArray) (i:Nat) (out:ByteArray):ByteArray:=if i<s.size then(if(out++fF i).size>1048576 then⟨#[]⟩else k6 fF s (i+1) (out++fF i))else out
 termination_by s.size-i
theorem vi {fF:Nat→ByteArray} {s:ByteArray} {i:Nat} {out:ByteArray} (h:i<s.size):k6 fF s i out=if(out++fF i).size>1048576 then⟨#[]⟩else k6 fF s (i+1) (out++fF i):=by rw[k6,if_pos h]
theorem rf {fF:Nat→ByteArray} {s:ByteArray} {i:Nat} {out:ByteArray} (h:¬i<s.size):k6 fF s i out=out:=by rw[k6,if_neg h]
def Aq (s:ByteArray) (name:Int) (fF:ByteArray):ByteArray:=k6 (fun i=>if bC s i=name then fF else one s i) s 0 ⟨#[]⟩
end Go.aB
namespace Go.aB
def T3 (e:hV):Bool:=if e.left.size=0∨e.right.size=0 then !kG isVar (e.left++e.right) 0 else !isVar (bC e.left 0)&&!isVar (bC e.right 0)
end Go.aB
namespace Go.aB
theorem T4 (fF:Nat→ByteArray) (s:ByteArray):∀(n i:Nat) (out:ByteArray),s.size-i≤n→out.size≤1048576→(k6 fF s i out).size≤1048576:=by
 intro n
 induction n with
 | zero=>intro i out h aj;rw[rf (by omega)];exact aj
 | succ n ag=>
   intro i out h aj
   by_cases hi:i<s.size
   ·rw[vi hi]
    split
    ·decide
    ·exact ag _ _ (by omega) (by omega)
   ·rw[rf hi];exact aj
def pair (a b:Int):ByteArray:=tR [a,b]
def Ir (a b:Int):List nu:=if isVar a=true then(if(isVar b||decide (0≤iD b))=true then[⟨a,⟨#[]⟩⟩,⟨a,pair b a⟩]else[⟨a,⟨#[]⟩⟩])else[]
def aq2 (s:hV):List nu:=
 if s.left.size=0∧s.right.size=0∨T3 s=true then[]
 else if s.left.size=0 then[⟨bC s.right 0,⟨#[]⟩⟩]
 else if s.right.size=0 then[⟨bC s.left 0,⟨#[]⟩⟩]
 else Ir (bC s.left 0) (bC s.right 0)++Ir (bC s.right 0) (bC s.left 0)
end Go.aB
namespace Go.aB
def gL (c:Int):Bool:=decide (0≤iD c)
def isWord (s:ByteArray):Bool:=decide (s.size≤30)&&kG gL s 0
end Go.aB
namespace Go.aB
def small (s:ByteArray):Bool:=isWord s&&decide (s.size≤3)
def hD (m:cD):Bool:=small m.a&&(small m.b&&small m.c)
def s4 (r:aU):Bool:=(r.kind==0)&&(decide (r.dV.size=0)&&((r.args.length:Int)==0))
end Go.aB
namespace Go.aB
open Go
def fv {α:Type} (p:α→Bool):List α→Nat→Int
 | [],_=> -1
 | x::l,i=>if p x=true then(i:Int)else fv p l (i+1)
theorem Dy {α:Type} (p:α→Bool):∀(l:List α) (i:Nat),decide (fv p l i≥0)=l.any p:=by
 intro l
 induction l with
 | nil=>intro i;rfl
 | cons x l ag=>
   intro i
   unfold fv
   rw[List.any_cons]
   cases h:p x
   ·rw[if_neg (by decide),ag,Bool.false_or]
   ·rw[if_pos rfl,Bool.true_or]
    simp
theorem k7 {t:Nat} {b:Nat→Option ax} {os:List (Nat→Option ax)} (h:os.length≠0):bV t 0 (b::os)=bV t 0 os:=by
 show(if 0=os.length then b t else bV t 0 os)=_
 rw[if_neg (by omega)]
end Go.aB
namespace Go.aB
open Go
def aU.nodes (r:aU):Nat:=1+(r.args.attach.map fun x=>aU.nodes x.1).sum
 termination_by SizeOf.sizeOf r
 decreasing_by exact aU.lt _ x.2
theorem aU.Is (r:aU):r.nodes=1+(r.args.map aU.nodes).sum:=by rw[aU.nodes,List.attach_map_val (f:=aU.nodes)]
def k8 (l:List Nat):Nat:=l.foldr max 0
def aU.depth (r:aU):Nat:=1+k8 (r.args.attach.map fun x=>aU.depth x.1)
 termination_by SizeOf.sizeOf r
 decreasing_by exact aU.lt _ x.2
theorem aU.Dz (r:aU):r.depth=1+k8 (r.args.map aU.depth):=by rw[aU.depth,List.attach_map_val (f:=aU.depth)]
def jK (k:Int):Int:=if k=1∨k=2∨k=3∨k=4 then 0 else if k=8∨k=9 then 1 else if k=5∨k=6∨k=7 then 2 else -1
def gM (r:aU):Bool:=(r.args.length:Int)==jK r.kind&&(if r.kind=3 then decide (r.dV.size=1)&&isWord r.dV else decide (r.dV.size=0))
def aU.gN (r:aU):Bool:=(r.args.attach.map fun x=>aU.gN x.1).all id&&gM r
 termination_by SizeOf.sizeOf r
 decreasing_by exact aU.lt _ x.2
theorem aU.DA (r:aU):r.gN=((r.args.map aU.gN).all id&&gM r):=by rw[aU.gN,List.attach_map_val (f:=aU.gN)]
def jL (r:aU):Bool:=decide (r.nodes≤16)&&(decide (r.depth≤6)&&r.gN)
def aU.eA (r:aU) (d:Nat):Nat:=if d=0∨gM r=false then 17 else min (1+(r.args.attach.map fun x=>aU.eA x.1 (d-1)).sum) 17
 termination_by SizeOf.sizeOf r
 decreasing_by exact aU.lt _ x.2
theorem aU.DB (r:aU) (d:Nat):r.eA d=if d=0∨gM r=false then 17 else min (1+(r.args.map fun x=>x.eA (d-1)).sum) 17:=by
 rw[aU.eA,List.attach_map_val (f:=fun x=>aU.eA x (d-1))]
theorem DC {l:List Nat} {n:Nat}:k8 l≤n↔∀x∈l,x≤n:=by
 induction l with
 | nil=>simp[k8]
 | cons a l ag=>
   have:k8 (a::l)=max a (k8 l):=rfl
   rw[this,Nat.max_le,ag]
   simp
theorem T5 {l:List aU} {f g:aU→Nat} (h:∀x∈l,g x=min (f x) 17):min (1+(l.map g).sum) 17=min (1+(l.map f).sum) 17:=by
 suffices ∀n,min (n+(l.map g).sum) 17=min (n+(l.map f).sum) 17 from this 1
 induction l with
 | nil=>intro n;rfl
 | cons a l ag=>
   intro n
   have J:=ag (fun x U=>h x (List.mem_cons_of_mem _ U))
   have aa:=h a (List.mem_cons_self ..)
   simp only[List.map_cons,List.sum_cons]
   have ar:=J (n+f a)
   have aP:=J (n+g a)
   rw[aa]at aP
   rw[aa]
   by_cases k:f a≤17
   ·rw[Nat.min_eq_left k]at aP⊢
    rw[←Nat.add_assoc,←Nat.add_assoc]
    exact aP
   ·rw[Nat.min_eq_right (by omega)]
    omega
theorem T6 {l:List aU} {g:aU→Nat} (h:∃x∈l,g x=17):17≤(l.map g).sum:=by
 induction l with
 | nil=>obtain⟨x,U,_⟩:=h;cases U
 | cons a l ag=>
   obtain⟨x,U,av⟩:=h
   simp only[List.map_cons,List.sum_cons]
   rcases List.mem_cons.1 U with rfl | U
   ·omega
   ·have:=ag ⟨x,U,av⟩;omega
theorem aU.It (r:aU) (d:Nat):r.eA d=if r.depth≤d∧r.gN=true then min r.nodes 17 else 17:=by
 rw[aU.DB,aU.Dz,aU.DA,aU.Is]
 have ag:∀x∈r.args,x.eA (d-1)=if x.depth≤d-1∧x.gN=true then min x.nodes 17 else 17:=fun x U=>aU.It x (d-1)
 by_cases bn:d=0
 ·rw[if_pos (Or.inl bn),if_neg (by omega)]
 by_cases J:gM r=false
 ·rw[if_pos (Or.inr J),if_neg (by rw[J];simp)]
 rw[if_neg (fun h=>h.elim bn J)]
 have o3:gM r=true:=by simpa using J
 by_cases aa:∀x∈r.args,x.depth≤d-1∧x.gN=true
 ·rw[if_pos]
  ·exact T5 fun x U=>by rw[ag x U,if_pos (aa x U)]
  ·refine⟨?_,?_⟩
   ·have:k8 (r.args.map aU.depth)≤d-1:=DC.2 fun x U=>by
     obtain⟨y,aA,rfl⟩:=List.mem_map.1 U
     exact(aa y aA).1
    omega
   ·rw[o3,Bool.and_true,List.all_eq_true]
    intro x U
    obtain⟨y,aA,rfl⟩:=List.mem_map.1 U
    exact(aa y aA).2
 ·rw[if_neg]
  ·have:∃x∈r.args,x.eA (d-1)=17:=by
    by_cases ar:∃x∈r.args,¬(x.depth≤d-1∧x.gN=true)
    ·obtain⟨x,U,aC⟩:=ar
     exact⟨x,U,by rw[ag x U,if_neg aC]⟩
    ·exfalso
     refine aa fun x U=>?_
     by_cases aP:x.depth≤d-1∧x.gN=true
     ·exact aP
     ·exact absurd ⟨x,U,aP⟩ ar
   have:=T6 (g:=fun x=>x.eA (d-1)) this
   omega
  ·rintro⟨aq,aF⟩
   refine aa fun x U=>⟨?_,?_⟩
   ·have:k8 (r.args.map aU.depth)≤d-1:=by omega
    exact DC.1 this _ (List.mem_map_of_mem U)
   ·rw[o3,Bool.and_true,List.all_eq_true]at aF
    exact aF _ (List.mem_map_of_mem U)
 termination_by SizeOf.sizeOf r
 decreasing_by exact aU.lt _ U
theorem T7 (r:aU):decide (r.eA 6≤16)=jL r:=by
 rw[aU.It]
 unfold jL
 by_cases h:r.depth≤6∧r.gN=true
 ·rw[if_pos h]
  by_cases k:r.nodes≤16
  ·simp[h,k];omega
  ·have:¬min r.nodes 17≤16:=by omega
   simp only[this,k,decide_false,Bool.false_and]
 ·rw[if_neg h]
  have:¬(17≤16):=by omega
  rw[decide_eq_false this]
  by_cases k:r.depth≤6
  ·have:r.gN=false:=by
    cases e:r.gN
    ·rfl
    ·exact absurd ⟨k,e⟩ h
   simp[this]
  ·simp[k]
end Go.aB
namespace Go.aB
open Go
def s5 (k:Int):Int:=if k=5∨k=6∨k=7 then 2 else if k=8∨k=9 then 1 else 0
theorem T8 (r:aU):gM r=if r.kind=3 then(decide (r.dV.size=1)&&(isWord r.dV&&decide ((r.args.length:Int)=0)))else((decide (1≤r.kind)&&decide (r.kind≤9))&&(decide (r.dV.size=0)&&decide ((r.args.length:Int)=s5 r.kind))):=by
 unfold gM
 by_cases h:r.kind=3
 ·rw[if_pos h,if_pos h,h]
  have:jK 3=0:=by decide
  rw[this]
  have e:((r.args.length:Int)==0)=decide ((r.args.length:Int)=0):=rfl
  rw[e]
  cases decide ((r.args.length:Int)=0)<;>cases decide (r.dV.size=1)<;>cases isWord r.dV<;>rfl
 ·rw[if_neg h,if_neg h]
  have e:((r.args.length:Int)==jK r.kind)=decide ((r.args.length:Int)=jK r.kind):=rfl
  rw[e]
  by_cases k:1≤r.kind∧r.kind≤9
  ·have:jK r.kind=s5 r.kind:=by
    unfold jK s5
    split<;>split<;>(try split)<;>(try split)<;>omega
   rw[this]
   simp only[k.1,k.2,decide_true,Bool.true_and]
   rw[Bool.and_comm]
  ·have aC:jK r.kind= -1:=by
    unfold jK
    rw[if_neg (by omega),if_neg (by omega),if_neg (by omega)]
   have J:¬(r.args.length:Int)=jK r.kind:=by rw[aC];omega
   have aa:(decide (1≤r.kind)&&decide (r.kind≤9))=false:=by
    cases e:decide (1≤r.kind)&&decide (r.kind≤9)
    ·rfl
    ·simp at e;exact absurd e k
   rw[aa,decide_eq_false J,Bool.false_and,Bool.false_and]
theorem aU.Iu (r:aU):r.depth≤1+ee r.enc:=by
 have ag:∀x∈r.args,x.depth≤1+ee x.enc:=fun x U=>aU.Iu x
 rw[aU.Dz]
 have:k8 (r.args.map aU.depth)≤ee r.enc:=DC.2 fun d aw=>by
  obtain⟨x,U,rfl⟩:=List.mem_map.1 aw
  have J:=ag x U
  have aa:=sX (f:=aU.enc) U
  have ar:0<r.args.length:=List.length_pos_of_mem U
  rw[aU.dv r]
  simp only[ee,kE,List.length_map]
  omega
 omega
 termination_by SizeOf.sizeOf r
 decreasing_by exact aU.lt _ U
def s6 (f:aU→Nat) (l:List aU):Nat:=(l.map f).sum
theorem DD (f:aU→Nat) (a:aU) (l:List aU):s6 f (a::l)=f a+s6 f l:=rfl
theorem T9 (a:Nat) (l:List Nat):k8 (a::l)=max a (k8 l):=rfl
theorem Iv (a b:Nat) (left:Int):leftOf (a+b) left=if leftOf a left<0 then -1 else leftOf b (leftOf a left):=by
 by_cases h:(a:Int)≤left
 ·rw[u4 h,if_neg (by omega)]
  by_cases aa:(b:Int)≤left-a
  ·rw[u4 aa,u4 (by omega)];omega
  ·rw[u5 aa,u5 (by omega)]
 ·rw[u5 h,if_pos (by decide),u5 (by omega)]
end Go.aB
namespace Go.aB
theorem Ua (k:Int):jK k≤2:=by unfold jK;split<;>(try split)<;>(try split)<;>omega
end Go.aB
namespace Go.aB
def oA (n:Int) (row:List Int):Bool:=((row.length:Int)==3)&&row.all fun q=>decide (0≤q)&&decide (q≤n-1)
def iR (d:eQ):Bool:=(decide (1≤(d.accept.length:Int))&&decide ((d.accept.length:Int)≤40))&&(((d.next.length:Int)==d.accept.length)&&d.next.all (oA d.accept.length))
theorem Iw {α:Type} (l:List α) (q:α→Bool):(l.any fun x=>!q x)=!l.all q:=by
 induction l with
 | nil=>rfl
 | cons a l ag=>rw[List.any_cons,List.all_cons,ag];cases q a<;>rfl
end Go.aB
namespace Go.aB
open Go
def aQ (n:Nat):V:=.int .i64 n
def bu (t:Nat×Nat×Nat):V:=.slc false 1 [.int .i64 t.1,.int .i64 t.2.1,.int .i64 t.2.2]
structure ao where
 accept:List Bool
 next:List (Nat×Nat×Nat)
def ao.enc (d:ao):V:=.agg [.slc false 1 (d.accept.map B),.slc false 1 (d.next.map bu)]
def ao.ok (d:ao):Prop:=d.next.length=d.accept.length∧∀t∈d.next,t.1<d.accept.length∧t.2.1<d.accept.length∧t.2.2<d.accept.length
def ao.aN (d:ao) (q:Nat):Nat×Nat×Nat:=d.next.getD q (0,0,0)
def ba (c:List Nat) (q:Nat):Nat:=c.getD q 0
def iE (d:ao) (c:List Nat) (p q:Nat):Bool:=(ba c p==ba c q)&&((ba c (d.aN p).1==ba c (d.aN q).1)&&((ba c (d.aN p).2.1==ba c (d.aN q).2.1)&&(ba c (d.aN p).2.2==ba c (d.aN q).2.2)))
def qi (p:Nat→Bool) (q:Nat):Nat→Nat
 | 0=>q
 | k+1=>if p (q-(k+1))=true then q-(k+1)else qi p q k
def lead (d:ao) (c:List Nat) (q:Nat):Nat:=qi (fun p=>iE d c p q) q q
def refine(d:ao) (c:List Nat):List Nat:=(List.range d.accept.length).map (lead d c)
def dW (d:ao):List Nat:=d.accept.map fun b=>if b then 1 else 0
def rounds (d:ao):Nat→List Nat→List Nat
 | 0,c=>c
 | k+1,c=>rounds d k (refine d c)
theorem kh (a b:Nat):((a:Int)==(b:Int))=(a==b):=by
 by_cases h:a=b
 ·subst h;rw[beq_self_eq_true,beq_self_eq_true]
 ·have aa:¬(a:Int)=b:=by omega
  rw[beq_eq_false_iff_ne.2 h,beq_eq_false_iff_ne.2 aa]
theorem ao.Ar (d:ao) {q:Nat} (h:q<d.next.length):d.aN q=d.next[q]:=by
 unfold ao.aN
 rw[List.getD_eq_getElem?_getD,List.getElem?_eq_getElem h]
 rfl
theorem ao.ie {d:ao} (aj:d.ok) {q:Nat} (h:q<d.accept.length):(d.aN q).1<d.accept.length∧(d.aN q).2.1<d.accept.length∧(d.aN q).2.2<d.accept.length:=by
 rw[d.Ar (by rw[aj.1];exact h)]
 exact aj.2 _ (List.getElem_mem _)
theorem hW {d:ao} {q:Nat} (h:q<d.next.length) (v:V):(d.next.map bu).getD q v=bu (d.aN q):=by
 rw[getD_map h,d.Ar h]
theorem iF {c:List Nat} {q:Nat} (h:q<c.length) (v:V):(c.map aQ).getD q v=aQ (ba c q):=by
 rw[getD_map h]
 unfold ba
 rw[List.getD_eq_getElem?_getD,List.getElem?_eq_getElem h]
 rfl
attribute [go_sem] ao.enc bu aQ
end Go.aB
namespace Go.aB
open Go
theorem Ix {α:Type} (f:α→V) (l:List α) (d:V) {i:Nat} (h:i<l.length) (arL:f l[i]=d):fill f l d i=fill f l d (i+1):=by
 rw[←u6 f l d h d arL.symm]
 unfold fill
 have aC:l.length-i=(l.length-(i+1))+1:=by omega
 rw[List.set_append_right _ _ (by simp;omega),aC]
 have:i-((l.take i).map f).length=0:=by simp;omega
 rw[this,List.replicate_succ,List.set_cons_zero]
theorem Iy (p:Nat→Bool) (q:Nat):qi p q 0=q:=rfl
theorem As (p:Nat→Bool) (q k:Nat):qi p q (k+1)=if p (q-(k+1))=true then q-(k+1)else qi p q k:=rfl
theorem Ub (d:ao) (c:List Nat):(refine d c).map aQ=(List.range d.accept.length).map fun q=>aQ (lead d c q):=by
 unfold refine
 rw[List.map_map]
 rfl
theorem DE (d:ao) (c:List Nat):(refine d c).length=d.accept.length:=by simp[refine]
theorem Uc (d:ao):(dW d).map aQ=d.accept.map fun b=>aQ (if b then 1 else 0):=by
 unfold dW
 rw[List.map_map]
 rfl
end Go.aB
namespace Go.aB
def s7 (b:Bool):V:=aQ (if b then 1 else 0)
def mK (d:ao) (c:List Nat) (q:Nat):V:=aQ (lead d c q)
theorem Ud (d:ao) (c:List Nat):(List.range d.accept.length).map (mK d c)=(refine d c).map aQ:=(Ub d c).symm
theorem Ue (d:ao):d.accept.map s7=(dW d).map aQ:=(Uc d).symm
end Go.aB
namespace Go.aB
open Go
section
variable {α:Type} [DecidableEq α]
def ins (l:List α) (x:α):List α:=if x∈l then l else l++[x]
def b0 (l:List α) (t:α×α×α):List α:=ins (ins (ins l t.1) t.2.1) t.2.2
theorem ig (l:List α) (x:α):l <+: ins l x:=by
 unfold ins
 split
 ·exact List.prefix_refl l
 ·exact List.prefix_append l [x]
theorem k9 (l:List α) (x:α):x∈ins l x:=by
 unfold ins
 split
 ·assumption
 ·simp
theorem vj {l:List α} {x y:α}:y∈ins l x↔y∈l∨y=x:=by
 unfold ins
 split
 ·constructor
  ·exact Or.inl
  ·rintro (h | rfl)<;>assumption
 ·simp
theorem DF {l:List α} {x:α} (h:l.Nodup):(ins l x).Nodup:=by
 unfold ins
 split
 ·exact h
 ·rename_i U
  rw[List.nodup_append]
  refine⟨h,by simp,?_⟩
  intro a aO b ad
  have:b=x:=by simpa using ad
  subst this
  rintro rfl
  exact U aO
theorem fG (l:List α) (t:α×α×α):l <+: b0 l t:=(ig _ _).trans ((ig _ _).trans (ig _ _))
theorem la {l:List α} {t:α×α×α} {y:α}:y∈b0 l t↔y∈l∨y=t.1∨y=t.2.1∨y=t.2.2:=by
 unfold b0
 rw[vj,vj,vj]
 constructor
 ·rintro (((h | h) | h) | h)<;>simp[h]
 ·rintro (h | h | h | h)<;>simp[h]
theorem rh {l:List α} {t:α×α×α} (h:l.Nodup):(b0 l t).Nodup:=DF (DF (DF h))
theorem Iz (x:α):∀(l:List α) (i:Nat),fv (fun y=>y==x) l i=if x∈l then((i+l.idxOf x:Nat):Int)else -1:=by
 intro l
 induction l with
 | nil=>intro i;rfl
 | cons a l ag=>
   intro i
   unfold fv
   by_cases h:a=x
   ·subst h
    rw[if_pos (by simp),if_pos (by simp)]
    simp
   ·have aZ:(a==x)=false:=by simpa using h
    rw[aZ,if_neg (by decide),ag]
    by_cases hm:x∈l
    ·rw[if_pos hm,if_pos (List.mem_cons_of_mem _ hm),List.idxOf_cons,aZ]
     simp
     omega
    ·rw[if_neg hm,if_neg (by simp;exact⟨fun e=>h e.symm,hm⟩)]
theorem DG {l L:List α} {x:α} (h:l <+: L) (U:x∈l):L.idxOf x=l.idxOf x:=by
 obtain⟨m,rfl⟩:=h
 rw[List.idxOf_append,if_pos U]
def eF (succ:α→α×α×α):Nat→List α→Nat→List α
 | 0,l,_=>l
 | f+1,l,i=>match l[i]? with
   | some x=>eF succ f (b0 l (succ x)) (i+1)
   | none=>l
theorem iS (succ:α→α×α×α):∀(f:Nat) (l:List α) (i:Nat),l <+: eF succ f l i:=by
 intro f
 induction f with
 | zero=>intro l i;exact List.prefix_refl l
 | succ f ag=>
   intro l i
   unfold eF
   split
   ·exact(fG _ _).trans (ag _ _)
   ·exact List.prefix_refl l
theorem lb {succ:α→α×α×α} {f:Nat} {l:List α} {i:Nat} (h:i<l.length):eF succ (f+1) l i=eF succ f (b0 l (succ l[i])) (i+1):=by
 rw[eF,List.getElem?_eq_getElem h]
theorem ki {succ:α→α×α×α} {f:Nat} {l:List α} {i:Nat} (h:¬i<l.length):eF succ f l i=l:=by
 cases f with
 | zero=>rfl
 | succ f=>rw[eF,List.getElem?_eq_none (by omega)]
end
theorem nv {l:List Nat} {n:Nat} (h:l.Nodup) (ad:∀x∈l,x<n):l.length≤n:=by
 have:=h.length_le_of_subset (l₂:=List.range n) (fun x U=>List.mem_range.2 (ad x U))
 rwa [List.length_range]at this
def IA (c:List Nat) (t:Nat×Nat×Nat):Nat×Nat×Nat:=(ba c t.1,ba c t.2.1,ba c t.2.2)
def rowOf (L:List Nat) (t:Nat×Nat×Nat):Nat×Nat×Nat:=(L.idxOf t.1,L.idxOf t.2.1,L.idxOf t.2.2)
def hd (d:ao) (c:List Nat) (q:Nat):Nat×Nat×Nat:=IA c (d.aN q)
def vk (d:ao) (c:List Nat) (s:Nat):List Nat:=eF (hd d c) d.accept.length [s] 0
def bB (d:ao) (q:Nat):Bool:=d.accept.getD q false
def ofList (d:ao) (c:List Nat) (L:List Nat):ao:=⟨L.map (bB d),L.map fun q=>rowOf L (hd d c q)⟩
def xJ (d:ao):ao:=ofList d (rounds d (d.accept.length+1) (dW d)) (vk d (rounds d (d.accept.length+1) (dW d)) (ba (rounds d (d.accept.length+1) (dW d)) 0))
theorem IB (p:Nat→Bool) (q:Nat):∀k,qi p q k≤q:=by
 intro k
 induction k with
 | zero=>exact Nat.le_refl q
 | succ k ag=>rw[As];split<;>omega
theorem rounds_succ (d:ao):∀(k:Nat) (c:List Nat),rounds d (k+1) c=refine d (rounds d k c):=by
 intro k
 induction k with
 | zero=>intro c;rfl
 | succ k ag=>intro c;rw[rounds,ag];rfl
theorem xK {d:ao} {c:List Nat} {q:Nat} (h:q<d.accept.length):ba (refine d c) q=lead d c q:=by
 unfold ba refine
 rw[List.getD_eq_getElem?_getD,List.getElem?_map,List.getElem?_range h]
 rfl
theorem IC {d:ao} {k q:Nat} (h:q<d.accept.length):ba (rounds d (k+1) (dW d)) q<d.accept.length:=by
 rw[rounds_succ,xK h]
 exact Nat.lt_of_le_of_lt (IB _ _ _) h
theorem Uf (d:ao) (k:Nat):(rounds d (k+1) (dW d)).length=d.accept.length:=by rw[rounds_succ,DE]
theorem kH {l:List Bool} {q:Nat} (h:q<l.length) (v:V):(l.map B).getD q v=B (l.getD q false):=by
 rw[getD_map h,List.getD_eq_getElem?_getD,List.getElem?_eq_getElem h]
 rfl
end Go.aB
namespace Go.aB
theorem s8 {α:Type} {l L:List α} (h:l <+: L) {i:Nat} (hi:i<l.length):L.take (i+1)=l.take i++[l[i]]:=by
 obtain⟨m,rfl⟩:=h
 rw[List.take_append_of_le_length (by omega),List.take_append_getElem hi]
theorem s9 {l:List Nat} {x:Nat}:(∀L,ins l x <+: L→fv (fun y:Int=>y==(x:Int)) ((ins l x).map fun n:Nat=>(n:Int)) 0=((L.idxOf x:Nat):Int))∧(fv (fun y:Int=>y==(x:Int)) (l.map fun n:Nat=>(n:Int)) 0<0↔x∉l):=by
 have e:∀(m:List Nat) (i:Nat),fv (fun y:Int=>y==(x:Int)) (m.map fun n:Nat=>(n:Int)) i=fv (fun y=>y==x) m i:=by
  intro m
  induction m with
  | nil=>intro i;rfl
  | cons a m ag=>
    intro i
    rw[List.map_cons]
    unfold fv
    rw[kh,ag]
 refine⟨fun L cK=>?_,?_⟩
 ·rw[e,Iz,if_pos (k9 l x),Nat.zero_add,DG cK (k9 l x)]
 ·rw[e,Iz]
  constructor
  ·intro h hm
   rw[if_pos hm]at h
   omega
  ·intro h
   rw[if_neg h]
   decide
theorem vl (l:List Nat):l.map aQ=(l.map fun n:Nat=>(n:Int)).map I:=by
 rw[List.map_map]
 rfl
end Go.aB
namespace Go.aB
theorem ID (l:List Nat) (x:Nat):(l++[x]).map aQ=l.map aQ++[.int .i64 x]:=by rw[List.map_append];rfl
end Go.aB
namespace Go.aB
open Go
theorem db (u:Nat) (ob:ax) (lv:Nat):∀os:List (Nat→Option ax),(cP u ob lv os).length=os.length:=by
 intro os
 induction os with
 | nil=>rfl
 | cons f os ag=>unfold cP;split<;>simp[*]
theorem eG {u lv:Nat}:∀{os:List (Nat→Option ax)} {ob:ax},bV u lv os=some ob→lv<os.length:=by
 intro os
 induction os with
 | nil=>intro ob h;cases h
 | cons f os ag=>
   intro ob h
   unfold bV at h
   split at h
   ·simp;omega
   ·have:=ag h;simp;omega
theorem DH (u lv kW gF:Nat) (ob:ax):∀os:List (Nat→Option ax),lv<os.length→bV kW gF (cP u ob lv os)=if gF=lv∧kW=u then some ob else bV kW gF os:=by
 intro os
 induction os with
 | nil=>intro h;simp at h
 | cons f os ag=>
   intro h
   unfold cP
   by_cases e:lv=os.length
   ·rw[if_pos e]
    unfold bV
    by_cases cc:gF=os.length
    ·rw[if_pos cc,if_pos cc]
     unfold ae
     by_cases At:kW=u
     ·rw[if_pos At,if_pos ⟨by omega,At⟩]
     ·rw[if_neg At,if_neg fun h=>At h.2]
    ·rw[if_neg cc,if_neg cc,if_neg fun h=>cc (by omega)]
   ·rw[if_neg e]
    unfold bV
    rw[db]
    by_cases cc:gF=os.length
    ·rw[if_pos cc,if_pos cc,if_neg fun h=>e (by omega)]
    ·rw[if_neg cc,if_neg cc]
     exact ag (by simp at h;omega)
theorem Ug (u lv:Nat) (ob:ax):∀os:List (Nat→Option ax),bV u lv os=some ob→cP u ob lv os=os:=by
 intro os
 induction os with
 | nil=>intro h;rfl
 | cons f os ag=>
   intro h
   unfold bV at h
   unfold cP
   split at h
   ·rename_i e
    rw[if_pos e]
    congr 1
    funext x
    unfold ae
    split
    ·rename_i e;subst e;exact h.symm
    ·rfl
   ·rename_i e
    rw[if_neg e,ag h]
theorem xL (u lv:Nat) (a:ax) (f:Nat→Option ax) (os:List (Nat→Option ax)):cP u a lv (f::os)=if lv=os.length then ae f u (some a)::os else f::cP u a lv os:=rfl
theorem ri (u lv:Nat) (a b:ax):∀os:List (Nat→Option ax),cP u b lv (cP u a lv os)=cP u b lv os:=by
 intro os
 induction os with
 | nil=>rfl
 | cons f os ag=>
   rw[xL,xL]
   by_cases e:lv=os.length
   ·rw[if_pos e,if_pos e,xL,if_pos e]
    congr 1
    funext x
    unfold ae
    split<;>rfl
   ·rw[if_neg e,if_neg e,xL,db,if_neg e,ag]
def Uh (k i:Nat):V:=.bool ((((k+i:Nat):Int)%3)==0)
def aq3 (k n:Nat):List V:=(List.range n).map (Uh k)
def Ui (k i:Nat):V:=.int .i64 ((k+i:Nat):Int)
def IE (k n:Nat):List V:=(List.range n).map (Ui k)
def aq4 (m:Nat→V) (l:List V) (i:Nat):List V:=(List.range i).map m++l.drop i
def eH (lv id:Nat) (n:Nat):V:=if n=0 then .slc false 1 []else .bS lv id n
def iG:Nat:=4294967296^8
def cg (u i:Nat):Nat:=u+(i+1)*iG
theorem Au {u i j:Nat} (h:cg u i=cg u j):i=j:=by
 unfold cg at h
 have ay:0<iG:=by decide
 have:(i+1)*iG=(j+1)*iG:=by omega
 have:=Nat.eq_of_mul_eq_mul_right ay this
 omega
theorem Av (u i:Nat):u<cg u i:=by
 unfold cg
 have ay:0<iG:=by decide
 have:0<(i+1)*iG:=Nat.mul_pos (by omega) ay
 omega
def ih (lv u:Nat) (c9:List Nat):List V:=(List.range c9.length).map fun i=>eH lv (cg u i) (c9.getD i 0)
def Uj (lv u:Nat):List Nat→Nat→Nat→List (Nat→Option ax)→List (Nat→Option ax)
 | [],_,_,os=>os
 | n::c9,i,k,os=>Uj lv u c9 (i+1) (k+n) (if n=0 then os else cP (cg u i) (.dir 1 (IE k n)) lv os)
def Aw (lv u:Nat) (os:List (Nat→Option ax)):List Nat→Nat→Nat→Prop
 | [],_,_=>True
 | n::c9,i,k=>(n≠0→bV (cg u i) lv os=some (.dir 1 (IE k n)))∧Aw lv u os c9 (i+1) (k+n)
theorem Aw.congr {lv u:Nat} {os IF:List (Nat→Option ax)}:∀{c9:List Nat} {i k:Nat},Aw lv u os c9 i k→(∀j,i≤j→bV (cg u j) lv IF=bV (cg u j) lv os)→Aw lv u IF c9 i k:=by
 intro c9
 induction c9 with
 | nil=>intro i k _ _;trivial
 | cons n c9 ag=>
   intro i k h he
   exact⟨fun aC=>(he i (Nat.le_refl _)).trans (h.1 aC),ag h.2 fun j au=>he j (by omega)⟩
end Go.aB
