/- What the pure reading says is what the machine does. One operation, and a region. What an operation looks at and what it turns. The frames of operations in regions whose order is drawn. The frames of steps. -/
import Derived.Orders
import Derived.Test.YtlecddobnippmaaGreatEvJ
set_option linter.unusedVariables false
set_option linter.unusedSimpArgs false
namespace Go.aB
open Go
variable {E:Env} {G:bh} {s:ab} {a:Act} {w:World}
def sD (o:List (Nat→Option ax)):Prop:=∀l t ob,bV t l o=some ob→nm l ob
theorem ia.outer (h:ia s):sD s.o:=fun l t ob aj=>h l t ob (by rw[sy (sx _ aj)];exact aj)
theorem ia.all (h:ia s):sD (s.b::s.o):=fun l t ob aj=>h l t ob aj
inductive k3:List cJ→List Item→Prop
 | nil:k3 [] []
 | code {cb k} (c:Code):k3 cb k→k3 (.code c::cb) (.code c::k)
 | eZ {cb k} (id:Nat):k3 cb k→k3 (.eZ id::cb) (.inBlock id::k)
 | jf {cb k} (c:Code):k3 cb k→k3 (.jf c::cb) (.inLoop c::k)
theorem k3.exit {id:Nat}:∀{cb its':List cJ} {k:List Item},k3 cb k→jU id cb=some its'→∃bI,exitTo id k=some bI∧k3 its' bI:=by
 intro cb
 induction cb with
 | nil=>intro its' k h U;cases U
 | cons i cb ag=>
   intro its' k h U
   cases h with
   | code c h=>
     obtain⟨bI,J,aa⟩:=ag h U
     exact⟨bI,by simpa[exitTo]using J,aa⟩
   | jf c h=>
     obtain⟨bI,J,aa⟩:=ag h U
     exact⟨bI,by simpa[exitTo]using J,aa⟩
   | eZ j h=>
     unfold jU at U
     unfold exitTo
     by_cases e:j=id
     ·rw[if_pos e]at U
      obtain rfl:=Option.some.inj U
      exact⟨_,by simp[e],h⟩
     ·rw[if_neg e]at U
      obtain⟨bI,J,aa⟩:=ag h U
      exact⟨bI,by simp[e,J],aa⟩
def pq (E:Env) (n:Nat):Prop:=∀(cb:List cJ) (s:ab) (r:V×List (Nat→Option ax)),cA E n cb s=some r→ia s→∀fn,E.P.funcs[s.f]?=some fn→fn.results=s.r→
 ∀(G:bh) (a:Act) (w:World),Rel G s a w→∀k,k3 cb k→∀(b:Frame) (cs:List Frame),b.fn=s.f→b.kind=.normal→
  ∃x w' cC G',Steps E.P (lone (b.at a k) cs w) (lone cC cs w')∧cC.fn=s.f∧cC.leaving E.P w' (.returned x)∧hA s.lv G w r.2 r.1 x w' G'∧sD r.2
theorem hA.pre {lv:Nat} {G bl G':bh} {w e2 w':World} {o:List (Nat→Option ax)} {v:V} {x:Value} (h:hA lv bl e2 o v x w' G') (f:Fr lv G w bl e2):hA lv G w o v x w' G':=
 ⟨h.own,f.trans h.cC,h.len,h.obj,h.fC,h.cZ,h.aX⟩
theorem w9 {f:Nat} {args:List V} {outer:List (Nat→Option ax)} {cf:List cJ} {bE:ab} (h:gZ E f args outer=some (cf,bE)):∃fn c,E.P.funcs[f]?=some fn∧args.length≤fn.ntmps∧(fn.name== "runtime.NumGoroutine")=false∧fn.body=some c∧cf=[.code c]∧
 bE={t:=m1 0 args,b:=bk,o:=outer,r:=fn.results,f:=f,n:=fn.ntmps}:=by
 unfold gZ at h
 split at h
 ·rename_i fn aJ
  split at h
  ·rename_i ah
   obtain⟨c,ad,he⟩:=Option.map_eq_some_iff.1 h
   obtain⟨rfl,rfl⟩:=Prod.mk.inj he
   exact⟨fn,c,aJ,ah.1,ah.2,ad,rfl,rfl⟩
  ·cases h
 ·cases h
theorem xa {n:Nat} (a8:pq E n) {f:Nat} {args:List V} {eo:Array Value} {outer:List (Nat→Option ax)} {cf:List cJ} {bE:ab} {r:V×List (Nat→Option ax)} (bn:gZ E f args outer=some (cf,bE)) (aI:cA E n cf bE=some r)
 (ai:args.length=eo.size) (a6:∀i,i<args.length→bZ G w (bd.h4 outer.length i) (args.getD i .undef) (eo.getD i Go.undef))
 (CG:∀l t ob,bV t l outer=some ob→∃g,G.β l t=some g∧G.aV g=some (.ob l t)∧jA G w l t g ob) (CH:∀l t g,G.β l t=some g→∃ob,bV t l outer=some ob)
 (j4:∀g j c,G.S g j=some c→w.cell? ⟨g,j,none⟩=some c) (asa:∀g p,G.aV g=some p→g<w.heap.size) (cL:sD outer):
 Calls E.P f eo w fun e w'=>∃x G',e=.returned x∧hA outer.length G w r.2 r.1 x w' G'∧sD r.2:=by
 obtain⟨fn,c,aJ,aC,Ha,ad,rfl,rfl⟩:=w9 bn
 intro cs
 have PX:=Pz (r:=fn.results) (f:=f) ai a6 aC CG CH j4 asa
 have PY:ia {t:=m1 0 args,b:=bk,o:=outer,r:=fn.results,f:=f,n:=fn.ntmps}:=by
  intro l t ob aj
  have dA:(if l=outer.length then none else bV t l outer)=some ob:=aj
  split at dA
  ·cases dA
  ·exact cL l t ob dA
 let b:Frame:={(default:Frame)with fn:=f,kind:=.normal}
 obtain⟨x,w',cC,G',J,aa,ar,aP,bf⟩:=a8 _ _ _ aI PY fn aJ rfl _ _ _ PX [.code c] (.code c .nil) b cs rfl rfl
 have xb:Frame.enter E.P f eo .normal=b.at {tmps:=eo++Array.replicate (fn.ntmps-eo.size) undef,defers:=[]} [.code c]:=by
  simp[Frame.enter,Frame.at,aJ,ad,b]
 refine⟨.returned x,w',cC,⟨x,G',rfl,aP,bf⟩,?_,aa,ar⟩
 rw[xb];exact J
noncomputable abbrev np (E:Env) (n:Nat) (o:Oper) (s:ab):Option ab:=eL E (cA E n) o s
noncomputable def stepG (E:Env) (n:Nat) (all:Array Oper) (o:Oper) (s:ab):Option ab:=match o.guard with
 | none=>np E n o s
 | some (j,want)=>match ((all[j]?).bind (·.dst)).map s.t with
   | some (.bool b)=>if b=want then np E n o s else some (s.cV o.dst (.tup []))
   | some (.tup [])=>some (s.cV o.dst (.tup []))
   | _=>none
noncomputable def sE (E:Env) (n:Nat) (all:Array Oper):List Oper→ab→Option ab
 | [],s=>some s
 | o::l,s=>(stepG E n all o s).bind (sE E n all l)
theorem zM (d:Option Nat) (f:Operand) (args:Array Operand) (tys:Array TypeId) (k:List cJ) (s:ab):(∃bb,gC E d f args tys [] s=.go [] bb∧gC E d f args tys k s=.go k bb)∨
 (∃g vs outer plain bb,gC E d f args tys [] s=.call g vs outer plain d [] bb∧gC E d f args tys k s=.call g vs outer plain d k bb)∨(gC E d f args tys [] s=.fail∧gC E d f args tys k s=.fail):=by
 unfold gC
 split
 ·unfold m3
  split
  ·split
   ·exact .inr (.inl ⟨_,_,_,_,_,rfl,rfl⟩)
   ·exact .inr (.inr ⟨rfl,rfl⟩)
  ·exact .inr (.inr ⟨rfl,rfl⟩)
 split
 ·unfold tV
  split
  ·split
   ·exact .inr (.inl ⟨_,_,_,_,_,rfl,rfl⟩)
   ·exact .inr (.inr ⟨rfl,rfl⟩)
  ·exact .inr (.inr ⟨rfl,rfl⟩)
 unfold jy
 split
 ·split
  ·split
   ·exact .inr (.inl ⟨_,_,_,_,_,rfl,rfl⟩)
   ·split
    ·exact .inl ⟨_,rfl,rfl⟩
    ·exact .inr (.inl ⟨_,_,_,_,_,rfl,rfl⟩)
  ·exact .inr (.inr ⟨rfl,rfl⟩)
 ·exact .inr (.inr ⟨rfl,rfl⟩)
theorem PZ {n m:Nat} (h:n≤m) {all:Array Oper} {o:Oper} {s bb:ab} (al:stepG E n all o s=some bb):stepG E m all o s=some bb:=by
 have eh:∀{bb},np E n o s=some bb→np E m o s=some bb:=fun al=>BA (fun cb s r aI=>nQ E h aI) al
 unfold stepG at al⊢
 split
 ·rename_i av
  rw[av]at al
  exact eh al
 ·rename_i j want av
  rw[av]at al
  dsimp only at al
  split
  ·rename_i b ad
   rw[ad]at al
   dsimp only at al
   by_cases e:b=want
   ·rw[if_pos e]at al⊢;exact eh al
   ·rw[if_neg e]at al⊢;exact al
  ·rename_i ad
   rw[ad]at al
   exact al
  ·rename_i J aa
   split at al
   ·rename_i e;exact absurd e (J _)
   ·rename_i e;exact absurd e aa
   ·exact al
theorem Hb {n m:Nat} (h:n≤m) {all:Array Oper}:∀{l:List Oper} {s bb:ab},sE E n all l s=some bb→sE E m all l s=some bb:=by
 intro l
 induction l with
 | nil=>intro s bb al;exact al
 | cons o l ag=>
   intro s bb al
   obtain⟨s1,J,aa⟩:=Option.bind_eq_some_iff.1 al
   exact Option.bind_eq_some_iff.2 ⟨s1,PZ h J,ag aa⟩
theorem P0 {all:Array Oper} {k:List cJ}:∀{l:List Oper} {n:Nat} {s:ab} {r},cA E (n+1) (.ops l all::k) s=some r→∃bb,sE E n all l s=some bb∧cA E n k bb=some r:=by
 intro l
 induction l with
 | nil=>intro n s r h;exact⟨s,rfl,by simpa[cA,gv]using h⟩
 | cons o l ag=>
   intro n s r h
   rw[cA]at h
   have fin:∀{s1:ab},stepG E n all o s=some s1→cA E n (.ops l all::k) s1=some r→∃bb,sE E n all (o::l) s=some bb∧cA E n k bb=some r:=by
    intro s1 J aa
    cases n with
    | zero=>simp[cA]at aa
    | succ n=>
      obtain⟨bb,ar,aP⟩:=ag aa
      exact⟨bb,Option.bind_eq_some_iff.2 ⟨s1,J,Hb (Nat.le_succ n) ar⟩,nQ E (Nat.le_succ n) aP⟩
   have run:∀out:Out,(out=match o.op with
    | .call {callee:=.value f,args,argTypes}=>gC E o.dst f args argTypes (.ops l all::k) s
    | _=>match jx E.P (E.H s.f) o s with
      | some bb=>.go (.ops l all::k) bb
      | none=>.fail)→(match out with
        | .go k bb=>cA E n k bb
        | .done v o=>some (v,o)
        | .fail=>none
        | .draw ops c alt k bb=>match jX E (cA E n) ops c alt bb with
          | some s2=>cA E n k s2
          | none=>none
        | .call f args outer plain d k bb=>match gZ E f args outer with
          | none=>none
          | some (cf,bE)=>match cA E n cf bE with
            | none=>none
            | some r=>cA E n k (h1 bb plain d r.1 r.2))=some r→(∀s1,np E n o s=some s1→stepG E n all o s=some s1)→∃bb,sE E n all (o::l) s=some bb∧cA E n k bb=some r:=by
    intro out aj aI CO
    subst aj
    split at aI
    ·rename_i aF s2 he
     split at he
     ·rename_i f args argTypes dt
      rcases zM (E:=E) o.dst f args argTypes (.ops l all::k) s with⟨bb,aR,a7⟩ | ⟨g,vs,outer,plain,bb,aR,a7⟩ | ⟨aR,a7⟩
      ·rw[a7]at he
       obtain⟨rfl,rfl⟩:=Out.go.inj he
       exact fin (CO _ (by unfold np eL;rw[dt];dsimp only;rw[aR];rfl)) aI
      ·rw[a7]at he;cases he
      ·rw[a7]at he;cases he
     ·rename_i aY
      split at he
      ·rename_i bb kB
       obtain⟨rfl,rfl⟩:=Out.go.inj he
       refine fin (CO _ ?_) aI
       unfold np eL
       split
       ·rename_i e;exact absurd e (aY _ _ _)
       ·exact kB
      ·cases he
    ·rename_i v iB he
     split at he
     ·rename_i f args argTypes dt
      rcases zM (E:=E) o.dst f args argTypes (.ops l all::k) s with⟨bb,aR,a7⟩ | ⟨g,vs,outer,plain,bb,aR,a7⟩ | ⟨aR,a7⟩<;>rw[a7]at he<;>cases he
     ·split at he<;>cases he
    ·cases aI
    ·rename_i he
     split at he
     ·rename_i f args argTypes dt
      rcases zM (E:=E) o.dst f args argTypes (.ops l all::k) s with⟨bb,aR,a7⟩ | ⟨g,vs,outer,plain,bb,aR,a7⟩ | ⟨aR,a7⟩<;>rw[a7]at he<;>cases he
     ·split at he<;>cases he
    ·rename_i f2 aqV aqW aqX d2 aF s2 he
     split at he
     ·rename_i f args argTypes dt
      rcases zM (E:=E) o.dst f args argTypes (.ops l all::k) s with⟨bb,aR,a7⟩ | ⟨g,vs,outer,plain,bb,aR,a7⟩ | ⟨aR,a7⟩
      ·rw[a7]at he;cases he
      ·rw[a7]at he
       obtain⟨rfl,rfl,rfl,rfl,rfl,rfl,rfl⟩:=Out.call.inj he
       split at aI
       ·cases aI
       ·rename_i cf bE bn
        split at aI
        ·cases aI
        ·rename_i sF J
         refine fin (CO _ ?_) aI
         unfold np eL
         rw[dt]
         dsimp only
         rw[aR]
         unfold eC
         dsimp only
         rw[bn]
         dsimp only
         rw[J]
      ·rw[a7]at he;cases he
     ·split at he<;>cases he
   unfold gv at h
   dsimp only at h
   cases av:o.guard with
   | none=>
     rw[av]at h
     exact run _ rfl h fun s1 sk=>by unfold stepG;rw[av];exact sk
   | some CP=>
     obtain⟨j,want⟩:=CP
     rw[av]at h
     dsimp only at h
     cases arL:((all[j]?).bind (·.dst)).map s.t with
     | none=>rw[arL]at h;cases h
     | some v=>
       rw[arL]at h
       cases v with
       | bool b=>
         dsimp only at h
         by_cases e:b=want
         ·rw[if_pos e]at h
          exact run _ rfl h fun s1 sk=>by unfold stepG;rw[av];dsimp only;rw[arL];dsimp only;rw[if_pos e];exact sk
         ·rw[if_neg e]at h
          exact fin (by unfold stepG;rw[av];dsimp only;rw[arL];dsimp only;rw[if_neg e]) h
       | tup m=>
         cases m with
         | nil=>exact fin (by unfold stepG;rw[av];dsimp only;rw[arL]) h
         | cons _ _=>cases h
       | _=>cases h
end Go.aB
namespace Go.aB
open Go
variable {E:Env} {G:bh} {s:ab} {a:Act} {w:World}
def mF (E:Env):Prop:=∀g vs v,E.bm g vs=some v→vs.any isRef=false→∃fn c,E.P.funcs[g]?=some fn∧(fn.name== "runtime.NumGoroutine")=false∧fn.body=some c∧
 ∀(S:Nat→Nat→Option Value) (w:World) (eo:Array Value),vs.length=eo.size→(∀i,i<vs.length→aH S (fun _ _=>none) (vs.getD i .undef) (eo.getD i Go.undef))→(∀g j c,S g j=some c→w.cell? ⟨g,j,none⟩=some c)→
  Calls E.P g eo w fun e w'=>∃x G',e=.returned x∧hA 0 {S:=S,β:=fun _ _=>none,aV:=fun _=>none} w [] v x w' G'
theorem Hc {P:Program} {f:FuncId} {fn:Func} {c:Code} (aJ:P.funcs[f]?=some fn) (Ha:(fn.name== "runtime.NumGoroutine")=false) (ad:fn.body=some c) (args:Array Value) (w:World):
 (callFunc f args).run P w=.ok (.enter f args) w:=by
 have J:fn.name≠ "runtime.NumGoroutine" :=by simpa using Ha
 simp[callFunc,aJ,J,ad]
theorem Rel.cV (aI:Rel G s a w) {d:Option Nat} (aw:d.all (fun d=>decide (d<s.n))=true) {v:V} {x:Value} (arL:bZ G w bd.rs v x):∃G',Rel G' (s.cV d v) (a.put d x) w∧Fr s.lv G w G' w:=by
 cases d with
 | none=>exact⟨G,aI,Fr.refl _ _ _⟩
 | some d=>
   obtain⟨G',J,aa,_⟩:=aI.put arL d (by simpa using aw)
   exact⟨G',J,aa⟩
theorem Hd (s:ab) (d:Option Nat) (v:V) (b:Nat→Option ax) (o:List (Nat→Option ax)):({s with b:=b,o:=o}:ab).cV d v={s.cV d v with b:=b,o:=o}:=by cases d<;>rfl
theorem asi {n:Nat} (a8:pq E n) (eh:mF E) {o:Oper} {bb:ab} (h:np E n o s=some bb) (aI:Rel G s a w) (cL:ia s) {K:Act→World→Prop} {Q:Exit→Act→World→Prop}
 (gH:∀x w' G',Rel G' bb (a.put o.dst x) w'→bp s bb→Fr s.lv G w G' w'→K (a.put o.dst x) w'):o.wp E.P a w K Q:=by
 unfold np eL at h
 split at h
 ·rename_i f args argTypes dt
  have He:args.size=argTypes.size→(argTypes.toList.zip args.toList).map (fun x=>a.eval x.2)=(args.map a.eval).toList:=by
   intro ct
   have ai:args.toList.length≤argTypes.toList.length:=by simp[ct]
   have aa:(argTypes.toList.zip args.toList).map (fun x=>a.eval x.2)=((argTypes.toList.zip args.toList).map Prod.snd).map a.eval:=by rw[List.map_map];rfl
   rw[aa,List.map_snd_zip ai]
   simp
  have Hf:∀{g},s.aM E.P 0 f=.fn g []→a.eval f=.func (.func g) #[] #[]:=by
   intro g aJ
   have sG:=aI.aM E.P 0 f
   rw[aJ]at sG
   generalize a.eval f=u at sG
   cases sG with
   | fn _ _ cs ai a6=>rw[show cs=#[]from Array.eq_empty_of_size_eq_zero (by simpa using ai.symm)]
  have Hg:∀{g fn c},a.eval f=.func (.func g) #[] #[]→E.P.funcs[g]?=some fn→(fn.name== "runtime.NumGoroutine")=false→fn.body=some c→(execOp a.eval o).run E.P w=.ok (.enter g (args.map a.eval)) w:=by
   intro g fn c CQ J aa ar
   simp only[execOp,dt,resolve,CQ,Deferred.ofValue,Sem.run_bind,Sem.run_pure,Result.andThen_ok,invoke]
   rw[Hc J aa ar]
   simp
  unfold gC at h
  split at h
  ·unfold m3 at h
   split at h
   ·rename_i g vs aJ fs
    split at h
    ·rename_i ah
     obtain⟨ct,aw⟩:=ah
     obtain⟨ni,t1⟩:=aI.gb (fun _ _=>none) _ fs
     have p5:vs.length=(args.map a.eval).size:=by rw[ni];simp[ct]
     have a6:∀i,i<vs.length→aH (rowAt w) (fun _ _=>none) (vs.getD i .undef) ((args.map a.eval).getD i Go.undef):=by
      intro i hi
      have J:=t1 i hi
      rw[He ct]at J
      rw[Array.getD_eq_getD_getElem?,←Array.getElem?_toList,←List.getD_eq_getElem?_getD]
      exact J
     have j4:∀g j c,rowAt w g j=some c→w.cell? ⟨g,j,none⟩=some c:=by
      intro g j c ah
      unfold rowAt at ah
      split at ah
      ·rename_i bj;simp only[World.cell?,bj];exact ah
      ·cases ah
     unfold eC at h
     dsimp only at h
     split at h
     ·cases h
     ·rename_i cf bE bn
      split at h
      ·cases h
      ·rename_i r ec
       obtain rfl:=Option.some.inj h
       obtain⟨fn,c,bt,bq,cN,gI,_,_⟩:=w9 bn
       unfold Oper.wp
       rw[Hg (Hf aJ) bt cN gI,Oper.upon_enter]
       refine(xa (G:={S:=rowAt w,β:=fun _ _=>none,aV:=fun _=>none}) a8 bn ec p5 (fun i hi=>bZ.fT (a6 i hi)) (fun l t ob aj=>by cases aj) (fun l t g av=>by cases av) j4 (fun g p arM=>by cases arM) (fun l t ob aj=>by cases aj)).mono ?_
       rintro e w' ⟨x,G',rfl,oe,mv⟩
       obtain⟨bN,bL,cx,c8⟩:=PL aI oe
       obtain⟨k1,cB,dJ⟩:=bL.cV aw cx
       exact gH x w' k1 cB (.cV _ _ _) (c8.trans dJ)
    ·cases h
   ·cases h
  split at h
  ·unfold tV at h
   split at h
   ·rename_i g vs s1 aJ q6
    split at h
    ·rename_i ah
     obtain⟨ct,aw⟩:=ah
     obtain⟨bl,cd,f1,l1,ni,t1⟩:=aI.hI E.P _ q6
     have ib:bp s s1:=.hI _ q6
     have p5:vs.length=(args.map a.eval).size:=by rw[ni];simp[ct]
     have a6:∀i,i<vs.length→bZ bl w (bd.h4 (s.lv+1) i) (vs.getD i .undef) ((args.map a.eval).getD i Go.undef):=by
      intro i hi
      have J:=t1 i hi
      rw[He ct]at J
      rw[Array.getD_eq_getD_getElem?,←Array.getElem?_toList,←List.getD_eq_getElem?_getD]
      exact J
     have xc:o.dst.all (fun d=>decide (d<s1.n))=true:=by rw[ib.n];exact aw
     unfold eC at h
     dsimp only at h
     split at h
     ·cases h
     ·rename_i cf bE bn
      split at h
      ·cases h
      ·rename_i r ec
       obtain rfl:=Option.some.inj h
       obtain⟨fn,c,bt,bq,cN,gI,_,_⟩:=w9 bn
       unfold Oper.wp
       rw[Hg (Hf aJ) bt cN gI,Oper.upon_enter]
       refine(xa a8 bn ec p5 (fun i hi=>(by rw[show(s1.b::s1.o).length=s.lv+1 from congrArg (·+1) ib.lv];exact a6 i hi)) (fun l t ob aj=>cd.obj l t ob aj) (fun l t g av=>cd.fC l t g av) cd.cZ cd.aX (ib.low cL).all).mono ?_
       rintro e w' ⟨x,G',rfl,oe,mv⟩
       obtain⟨bN,bL,cx,c8,fK⟩:=GW cd oe mv
       have l2:({s1 with b:=r.2.headD bk,o:=r.2.tail}:ab).lv=s1.lv:=by
        show r.2.tail.length=s1.lv
        rw[List.length_tail,oe.len];rfl
       obtain⟨Hh,bL,cx,h6⟩:=bL.iw (dQ E g o.dst s1) cx
       rw[l2]at h6
       replace c8:=c8.trans h6
       obtain⟨k1,cB,dJ⟩:=bL.cV xc cx
       rw[Hd]at cB
       refine gH x w' k1 cB ?_ ((f1.trans (ib.lv▸c8)).trans (by rw[l2,ib.lv]at dJ;exact dJ))
       refine ib.trans ⟨?_,?_,?_,?_,fun _=>?_⟩
       ·exact l2
       ·exact(bp.cV s1 o.dst (iw (dQ E g o.dst s1) r.1)).r
       ·exact(bp.cV s1 o.dst (iw (dQ E g o.dst s1) r.1)).f
       ·exact(bp.cV s1 o.dst (iw (dQ E g o.dst s1) r.1)).n
       ·exact fK
    ·cases h
   ·cases h
  unfold jy at h
  split at h
  ·rename_i g bg vs s1 aJ q6
   split at h
   ·rename_i ah
    obtain⟨ct,aw⟩:=ah
    have sG:=aI.aM E.P 0 f
    rw[aJ]at sG
    obtain⟨cs,fm,P2,CQ⟩:∃cs:Array Value,bg.length=cs.size∧(∀i,i<bg.length→aH G.S G.β (bg.getD i .undef) (cs.getD i Go.undef))∧a.eval f=.func (.func g) #[] cs:=by
     generalize a.eval f=u at sG
     cases sG with
     | fn _ _ cs ai a6=>exact⟨cs,ai,a6,rfl⟩
    obtain⟨bl,cd,f1,l1,ni,t1⟩:=aI.args E.P _ q6
    have ib:bp s s1:=.args _ q6
    have P3:(argTypes.toList.zip args.toList).map (fun x=>a.eval x.2)=(args.map a.eval).toList:=by
     have ai:args.toList.length≤argTypes.toList.length:=by simp[ct]
     have aa:(argTypes.toList.zip args.toList).map (fun x=>a.eval x.2)=((argTypes.toList.zip args.toList).map Prod.snd).map a.eval:=by rw[List.map_map];rfl
     rw[aa,List.map_snd_zip ai]
     simp
    let eo:Array Value:=args.map a.eval++cs
    have p5:vs.length=(args.map a.eval).size:=by
     rw[ni]
     simp[ct]
    have hlen:(vs++bg).length=eo.size:=by
     rw[List.length_append,p5,fm]
     simp[eo]
    have a6:∀i,i<(vs++bg).length→aH bl.S bl.β ((vs++bg).getD i .undef) (eo.getD i Go.undef):=by
     intro i hi
     by_cases aL:i<vs.length
     ·have J:=(t1 i aL).1
      rw[P3]at J
      have aR:(vs++bg).getD i .undef=vs.getD i .undef:=by simp[List.getD_eq_getElem?_getD,List.getElem?_append_left aL]
      have a7:eo.getD i Go.undef=(args.map a.eval).toList.getD i Go.undef:=by
       simp only[eo,Array.getD_eq_getD_getElem?]
       rw[Array.getElem?_append_left (by omega),List.getD_eq_getElem?_getD,Array.getElem?_toList]
      rw[aR,a7];exact J
     ·have dI:i-vs.length<bg.length:=by rw[List.length_append]at hi;omega
      have J:=l1.dg (P2 _ dI)
      have aR:(vs++bg).getD i .undef=bg.getD (i-vs.length) .undef:=by simp[List.getD_eq_getElem?_getD,List.getElem?_append_right (by omega:vs.length≤i)]
      have a7:eo.getD i Go.undef=cs.getD (i-vs.length) Go.undef:=by
       simp only[eo,Array.getD_eq_getD_getElem?]
       rw[Array.getElem?_append_right (by omega),p5]
      rw[aR,a7];exact J
    have Hi:(vs++bg).any isRef=false→bg=[]→∀i,i<(vs++bg).length→aH bl.S (fun _ _=>none) ((vs++bg).getD i .undef) (eo.getD i Go.undef):=by
     intro aC fM i hi
     refine(a6 i hi).pure _ ?_
     have hm:(vs++bg).getD i .undef∈vs++bg:=by
      rw[List.getD_eq_getElem?_getD,List.getElem?_eq_getElem hi]
      exact List.getElem_mem hi
     have zN:isRef ((vs++bg).getD i .undef)=false:=by
      cases ad:isRef ((vs++bg).getD i .undef)with
      | false=>rfl
      | true=>rw[List.any_eq_true.2 ⟨_,hm,ad⟩]at aC;cases aC
     by_cases aL:i<vs.length
     ·have aR:(vs++bg).getD i .undef=vs.getD i .undef:=by simp[List.getD_eq_getElem?_getD,List.getElem?_append_left aL]
      rw[aR]at zN⊢
      exact(t1 i aL).2 zN
     ·rw[List.length_append,fM]at hi
      exact absurd (by simpa using hi) aL
    have xb:∀{fn c},E.P.funcs[g]?=some fn→(fn.name== "runtime.NumGoroutine")=false→fn.body=some c→(execOp a.eval o).run E.P w=.ok (.enter g eo) w:=by
     intro fn c J aa ar
     simp only[execOp,dt,resolve,CQ,Deferred.ofValue,Sem.run_bind,Sem.run_pure,Result.andThen_ok,invoke]
     rw[Hc J aa ar]
     simp[eo]
    have cQ:∀g p,(fun _=>none:Nat→Option bd) g=some p→g<w.heap.size:=fun g p h=>by cases h
    have xc:o.dst.all (fun d=>decide (d<s1.n))=true:=by rw[ib.n];exact aw
    split at h
    ·
     rename_i q7
     unfold eC at h
     dsimp only at h
     split at h
     ·cases h
     ·rename_i cf bE bn
      split at h
      ·cases h
      ·rename_i r ec
       obtain rfl:=Option.some.inj h
       obtain⟨fn,c,bt,bq,cN,gI,_,_⟩:=w9 bn
       unfold Oper.wp
       rw[xb bt cN gI,Oper.upon_enter]
       refine(xa a8 bn ec hlen (fun i hi=>bZ.fT (a6 i hi)) (fun l t ob aj=>cd.obj l t ob aj) (fun l t g av=>cd.fC l t g av) cd.cZ cd.aX (ib.low cL).all).mono ?_
       rintro e w' ⟨x,G',rfl,oe,mv⟩
       obtain⟨bN,bL,cx,c8,fK⟩:=GW cd oe mv
       have l2:({s1 with b:=r.2.headD bk,o:=r.2.tail}:ab).lv=s1.lv:=by
        show r.2.tail.length=s1.lv
        rw[List.length_tail,oe.len];rfl
       obtain⟨Hh,bL,cx,h6⟩:=bL.iw (dQ E g o.dst s1) cx
       rw[l2]at h6
       replace c8:=c8.trans h6
       obtain⟨k1,cB,dJ⟩:=bL.cV xc cx
       rw[Hd]at cB
       refine gH x w' k1 cB ?_ ((f1.trans (ib.lv▸c8)).trans (by rw[l2,ib.lv]at dJ;exact dJ))
       refine ib.trans ⟨?_,?_,?_,?_,fun _=>?_⟩
       ·exact l2
       ·exact(bp.cV s1 o.dst (iw (dQ E g o.dst s1) r.1)).r
       ·exact(bp.cV s1 o.dst (iw (dQ E g o.dst s1) r.1)).f
       ·exact(bp.cV s1 o.dst (iw (dQ E g o.dst s1) r.1)).n
       ·exact fK
    ·rename_i q7
     have fM:bg=[]:=by
      cases bg with
      | nil=>rfl
      | cons _ _=>simp at q7
     have q7:(vs++bg).any isRef=false:=by
      cases ad:(vs++bg).any isRef with
      | false=>rfl
      | true=>rw[ad]at q7;simp at q7
     split at h
     ·rename_i v arL
      obtain rfl:=Option.some.inj h
      obtain⟨fn,c,bt,cN,gI,qc⟩:=eh _ _ _ arL q7
      unfold Oper.wp
      rw[xb bt cN gI,Oper.upon_enter]
      refine(qc bl.S w eo hlen (Hi q7 fM) cd.cZ).mono ?_
      rintro e w' ⟨x,G',rfl,oe⟩
      obtain⟨bN,bL,cx,c8⟩:=GV cd oe
      obtain⟨k1,cB,dJ⟩:=bL.cV xc cx
      exact gH x w' k1 cB (ib.trans (.cV _ _ _)) ((f1.trans (ib.lv▸c8)).trans (ib.lv▸dJ))
     ·unfold eC at h
      dsimp only at h
      split at h
      ·cases h
      ·rename_i cf bE bn
       split at h
       ·cases h
       ·rename_i r ec
        obtain rfl:=Option.some.inj h
        obtain⟨fn,c,bt,bq,cN,gI,_,_⟩:=w9 bn
        unfold Oper.wp
        rw[xb bt cN gI,Oper.upon_enter]
        refine(xa (G:={S:=bl.S,β:=fun _ _=>none,aV:=fun _=>none}) a8 bn ec hlen (fun i hi=>bZ.fT (Hi q7 fM i hi)) (fun l t ob aj=>by cases aj) (fun l t g av=>by cases av) cd.cZ (fun g p arM=>by cases arM) (fun l t ob aj=>by cases aj)).mono ?_
        rintro e w' ⟨x,G',rfl,oe,mv⟩
        obtain⟨bN,bL,cx,c8⟩:=GV cd oe
        obtain⟨Hh,bL,cx,h6⟩:=bL.iw (dQ E g o.dst s1) cx
        replace c8:=c8.trans h6
        obtain⟨k1,cB,dJ⟩:=bL.cV xc cx
        exact gH x w' k1 cB (ib.trans (.cV _ _ _)) ((f1.trans (ib.lv▸c8)).trans (ib.lv▸dJ))
   ·cases h
  ·cases h
 ·unfold jx at h
  split at h
  ·rename_i d aw
   split at h
   ·rename_i aL
    obtain⟨⟨v,s1⟩,arL,rfl⟩:=Option.map_eq_some_iff.1 h
    obtain⟨x,w',bl,J,aa,ar,aP⟩:=O4 (ty':=0) (d:=o.dst) (pos:=o.pos) (af:=o.after) (gd:=o.guard) aI (fun arL=>aI.lL cL arL) arL
    have ib:bp s s1:=.bw arL
    obtain⟨bN,cB,dJ,_⟩:=aa.put ar d (by rw[ib.n];exact aL)
    unfold Oper.wp
    have he:(execOp a.eval o).run E.P w=.ok (.value x) w':=J
    rw[he,Oper.upon_value]
    refine gH x w' bN (by rw[aw];exact cB) (ib.trans (.put _ _ _)) (aP.trans (ib.lv▸dJ))
   ·cases h
  ·rename_i aw
   obtain⟨w',bl,J,aa,ar⟩:=O6 (d:=o.dst) (ty:=o.type) (pos:=o.pos) (af:=o.after) (gd:=o.guard) aI h
   unfold Oper.wp
   have he:(execOp a.eval o).run E.P w=.ok .skip w':=J
   rw[he,Oper.upon_skip]
   refine gH _ w' bl (by rw[aw];exact aa) (.gu h) ar
end Go.aB
namespace Go.aB
open Go
variable {P:Program} {E:Env} {s:ab} {H:Hint}
theorem mG {x:Nat} {l m:List Nat}:aG x (l++m)=(aG x l||aG x m):=by
 induction l with
 | nil=>rfl
 | cons a l ag=>simp only[List.cons_append,aG];split<;>simp[*]
theorem P4 {i:Nat}:∀{l:List Operand},.tmp i∈l→aG i (tmpsOf l)=true:=by
 intro l
 induction l with
 | nil=>intro h;cases h
 | cons x l ag=>
   intro h
   rcases List.mem_cons.1 h with rfl | h
   ·simp[tmpsOf,aG]
   ·have:=ag h
    cases x<;>simp only[tmpsOf,aG]<;>first | exact this | (split<;>first | rfl | exact this)
def aqY (F:List Nat) (t t2:Nat→V):Prop:=∀x,aG x F=true→t2 x=t x
def alt (s:ab) (t:Nat→V) (b:Nat→Option ax) (o:List (Nat→Option ax)):ab:={s with t:=t,b:=b,o:=o}
section
variable {t2:Nat→V} {cv:Nat→Option ax} {mA:List (Nat→Option ax)}
theorem xd {s2:ab} {ty:TypeId} {x:Operand} (h:∀i,x=.tmp i→s2.t i=s.t i):s2.aM P ty x=s.aM P ty x:=by
 cases x with
 | tmp i=>simp only[ab.aM];rw[h i rfl]
 | _=>rfl
theorem xe {s2:ab} {ty:TypeId} {x:Operand} (h:∀i,x=.tmp i→s2.t i=s.t i):s2.all P ty x=s.all P ty x:=by
 cases x with
 | tmp i=>simp only[ab.all];rw[h i rfl]
 | _=>rfl
theorem zO (ty ty':TypeId) (x:Operand):isRef (s.aM P ty x)=isRef (s.aM P ty' x):=by
 cases x with
 | tmp i=>rfl
 | const v=>
   have:∀ty,isRef (oW P ty v).view=false:=by
    intro ty
    unfold oW
    split<;>rfl
   simp only[ab.aM,rd]
   rw[this,this]
 | func f=>rfl
 | global g=>rfl
theorem Hj (s s2:ab) {v:V} (h:isRef v=false):s.c2 v=s∧aB.tree s v=aB.tree s2 v:=by
 cases v<;>first | exact⟨rfl,rfl⟩ | cases h
theorem ab.Hk {ty:TypeId} {x:Operand} (h:isRef (s.aM P 0 x)=false):s.tree P ty x=(aB.tree s (s.aM P ty x)).map (·,s):=by
 have aZ:isRef (s.aM P ty x)=false:=by rw[zO ty 0];exact h
 unfold ab.tree
 dsimp only
 rw[(Hj s s aZ).1]
theorem ab.P5 {ty:TypeId} {x:Operand} (h:isRef (s.aM P 0 x)=false):s.arg P ty x=(aB.tree s (s.aM P ty x)).map (·,s):=by
 have aZ:isRef (s.aM P ty x)=false:=by rw[zO ty 0];exact h
 have aa:=ab.Hk (ty:=ty) h
 unfold ab.arg
 split
 ·rename_i e;rw[e]at aZ;cases aZ
 ·rename_i e;rw[e]at aZ;cases aZ
 ·rename_i f c e
  rw[e]at aZ⊢
  cases c with
  | nil=>rfl
  | cons _ _=>cases aZ
 ·exact aa
theorem uR:∀(xs:List (TypeId×Operand)),(xs.all fun x=>!isRef (s.aM P 0 x.2))=true→ab.trees P s xs=(e0 (fun x=>aB.tree s (s.aM P x.1 x.2)) xs).map (·,s):=by
 intro xs
 induction xs with
 | nil=>intro _;rfl
 | cons x xs ag=>
   intro h
   simp only[List.all_cons,Bool.and_eq_true,Bool.not_eq_true']at h
   obtain⟨ty,x⟩:=x
   unfold ab.trees
   rw[ab.Hk h.1]
   unfold e0
   dsimp only
   cases aB.tree s (s.aM P ty x)with
   | none=>rfl
   | some v=>
     dsimp only[Option.map]
     rw[ag (by simpa using h.2)]
     cases e0 (fun x=>aB.tree s (s.aM P x.1 x.2)) xs<;>rfl
theorem xf:∀(xs:List (TypeId×Operand)),(xs.all fun x=>!isRef (s.aM P 0 x.2))=true→ab.args P s xs=(e0 (fun x=>aB.tree s (s.aM P x.1 x.2)) xs).map (·,s):=by
 intro xs
 induction xs with
 | nil=>intro _;rfl
 | cons x xs ag=>
   intro h
   simp only[List.all_cons,Bool.and_eq_true,Bool.not_eq_true']at h
   obtain⟨ty,x⟩:=x
   unfold ab.args
   rw[ab.P5 h.1]
   unfold e0
   dsimp only
   cases aB.tree s (s.aM P ty x)with
   | none=>rfl
   | some v=>
     dsimp only[Option.map]
     rw[ag (by simpa using h.2)]
     cases e0 (fun x=>aB.tree s (s.aM P x.1 x.2)) xs<;>rfl
theorem P6 {α β:Type} {f g:α→Option β}:∀{l:List α},(∀x∈l,f x=g x)→e0 f l=e0 g l:=by
 intro l
 induction l with
 | nil=>intro _;rfl
 | cons a l ag=>
   intro h
   unfold e0
   rw[h a List.mem_cons_self,ag fun x U=>h x (List.mem_cons_of_mem _ U)]
theorem zP {s2:ab} {xs:List (TypeId×Operand)} (aC:(xs.all fun x=>!isRef (s.aM P 0 x.2))=true) (h:∀i,.tmp i∈xs.map Prod.snd→s2.t i=s.t i):
 (xs.all fun x=>!isRef (s2.aM P 0 x.2))=true∧e0 (fun x=>aB.tree s2 (s2.aM P x.1 x.2)) xs=e0 (fun x=>aB.tree s (s.aM P x.1 x.2)) xs:=by
 have al:∀x∈xs,∀ty,s2.aM P ty x.2=s.aM P ty x.2:=fun x U ty=>xd fun i hi=>h i (List.mem_map.2 ⟨x,U,hi⟩)
 refine⟨?_,P6 fun x U=>?_⟩
 ·rw[List.all_eq_true]at aC⊢
  intro x U
  rw[al x U]
  exact aC x U
 ·rw[al x U]
  have:=List.all_eq_true.1 aC x U
  simp only[Bool.not_eq_true']at this
  exact(Hj s2 s (by rw[zO x.1 0];exact this)).2
theorem mH (x:Operand):(s.drop x).t=fun i=>if aG i (tmpsOf [x])then(s.t i).view else s.t i:=by
 funext i
 cases x with
 | tmp j=>
   show ae s.t j _ i=_
   simp only[ae,tmpsOf,aG]
   by_cases e:i=j
   ·subst e;simp
   ·simp[e]
 | _=>simp[ab.drop,tmpsOf,aG]
theorem P7 (bW:Array Field):∀(ps:List (Nat×Operand)) {s s2:ab} {cs:List V},(∀i,.tmp i∈ps.map Prod.snd→s2.t i=s.t i)→(jg P bW s2 cs ps).map Prod.fst=(jg P bW s cs ps).map Prod.fst:=by
 intro ps
 induction ps with
 | nil=>intro s s2 cs _;rfl
 | cons p ps ag=>
   intro s s2 cs h
   obtain⟨i,x⟩:=p
   unfold jg
   cases bW[i]? with
   | none=>rfl
   | some f=>
     dsimp only
     have J:s2.all P f.type x=s.all P f.type x:=xe fun j au=>h j (by rw[←au];exact List.mem_cons_self)
     rw[J]
     split
     ·split
      all_goals try rfl
      ·refine ag fun j au=>?_
       rw[mH,mH]
       dsimp only
       rw[h j (List.mem_cons_of_mem _ au)]
     ·rfl
theorem P8 (bW:Array Field):∀(ps:List (Nat×Operand)) {s s1:ab} {cs jH:List V},jg P bW s cs ps=some (jH,s1)→s1={s with t:=fun x=>if aG x (tmpsOf (ps.map Prod.snd))then(s.t x).view else s.t x}:=by
 intro ps
 induction ps with
 | nil=>intro s s1 cs jH h;obtain⟨_,rfl⟩:=Prod.mk.inj (Option.some.inj h);rfl
 | cons p ps ag=>
   intro s s1 cs jH h
   obtain⟨i,x⟩:=p
   unfold jg at h
   split at h
   ·dsimp only at h
    split at h
    ·split at h
     ·cases h
     ·cases h
     ·rw[ag h]
      have aw:s.drop x={s with t:=(s.drop x).t}:=by unfold ab.drop;split<;>rfl
      rw[aw]
      congr 1
      funext j
      dsimp only
      rw[mH]
      have a7:aG j (tmpsOf (List.map Prod.snd ((i,x)::ps)))=(aG j (tmpsOf [x])||aG j (tmpsOf (List.map Prod.snd ps))):=by
       cases x<;>simp[tmpsOf,aG]
       try(split<;>simp)
      rw[a7]
      by_cases J:aG j (tmpsOf [x])=true<;>by_cases aa:aG j (tmpsOf (List.map Prod.snd ps))=true<;>simp[J,aa,V.pU]
    ·cases h
   ·cases h
theorem P9 (e:TypeId):∀(xs:List Operand) {s s2:ab},(∀i,.tmp i∈xs→s2.t i=s.t i)→(h0 P e s2 xs).map Prod.fst=(h0 P e s xs).map Prod.fst:=by
 intro xs
 induction xs with
 | nil=>intro s s2 _;rfl
 | cons x xs ag=>
   intro s s2 h
   unfold h0
   have J:s2.all P e x=s.all P e x:=xe fun j au=>h j (by rw[←au];exact List.mem_cons_self)
   rw[J]
   have aa:=ag (s:=s.drop x) (s2:=s2.drop x) fun j au=>by
    rw[mH,mH]
    dsimp only
    rw[h j (List.mem_cons_of_mem _ au)]
   split
   ·rfl
   ·rfl
   ·cases aR:h0 P e (s2.drop x) xs with
    | none=>
      rw[aR]at aa
      cases a7:h0 P e (s.drop x) xs with
      | none=>rfl
      | some r=>rw[a7]at aa;cases aa
    | some r=>
      rw[aR]at aa
      cases a7:h0 P e (s.drop x) xs with
      | none=>rw[a7]at aa;cases aa
      | some dS=>
        rw[a7]at aa
        have ar:r.1=dS.1:=Option.some.inj aa
        show some (_::r.1)=some (_::dS.1)
        rw[ar]
theorem Qa (e:TypeId):∀(xs:List Operand) {s s1:ab} {vs:List V},h0 P e s xs=some (vs,s1)→s1={s with t:=fun x=>if aG x (tmpsOf xs)then(s.t x).view else s.t x}:=by
 intro xs
 induction xs with
 | nil=>intro s s1 vs h;obtain⟨_,rfl⟩:=Prod.mk.inj (Option.some.inj h);rfl
 | cons x xs ag=>
   intro s s1 vs h
   unfold h0 at h
   split at h
   ·cases h
   ·cases h
   ·split at h
    ·rename_i J
     obtain⟨_,rfl⟩:=Prod.mk.inj (Option.some.inj h)
     rw[ag J]
     have aw:s.drop x={s with t:=(s.drop x).t}:=by unfold ab.drop;split<;>rfl
     rw[aw]
     congr 1
     funext j
     dsimp only
     rw[mH]
     have a7:aG j (tmpsOf (x::xs))=(aG j (tmpsOf [x])||aG j (tmpsOf xs)):=by
      cases x<;>simp[tmpsOf,aG]
      try(split<;>simp)
     rw[a7]
     by_cases J:aG j (tmpsOf [x])=true<;>by_cases aa:aG j (tmpsOf xs)=true<;>simp[J,aa,V.pU]
    ·cases h
end
end Go.aB
namespace Go.aB
open Go
variable {P:Program} {E:Env} {s:ab} {H:Hint} {ev:ds}
def pr (s:ab) (D:List Nat):ab:={s with t:=fun x=>if aG x D then(s.t x).view else s.t x}
theorem Qb:pr s []=s:=rfl
theorem drop_eq (x:Operand):s.drop x=pr s (tmpsOf [x]):=by
 have aw:s.drop x={s with t:=(s.drop x).t}:=by unfold ab.drop;split<;>rfl
 rw[aw,mH]
 rfl
theorem CR (o:Oper) (v:V) (ah:ji H o=[]):s.dR H o v=(pr s (gD H o)).cV o.dst v:=by
 unfold ab.dR
 rw[ah]
 cases h:o.dst with
 | none=>
   show _=pr s (gD H o)
   unfold pr cW
   simp[aG]
 | some d=>
   show _=(pr s (gD H o)).put d v
   unfold pr ab.put ae cW
   congr 1
   funext x
   by_cases e:x=d
   ·subst e;simp
   ·have:¬d=x:=fun h=>e h.symm
    simp[e,this,aG]
theorem sH {x:Option V} {v:V} {s1:ab} (h:x.map (·,s)=some (v,s1)):s1=s:=(iA h).2
theorem Qc {d:Nat} {ty:TypeId} {v:V} {s1:ab}:∀x:Operand,(match x with
 | .tmp i=>if aG d H.take then some (s.t i,s.drop x)else some ((s.t i).view,s)
 | x=>some (rd P s.t ty x,s))=some (v,s1)→s1=pr s (if aG d H.take then tmpsOf [x]else[]):=by
 intro x arL
 split at arL
 ·split at arL<;>obtain⟨rfl,rfl⟩:=Prod.mk.inj (Option.some.inj arL)
  ·rename_i h;rw[if_pos h];exact drop_eq _
  ·rename_i h;rw[if_neg h];rfl
 ·obtain⟨rfl,rfl⟩:=Prod.mk.inj (Option.some.inj arL)
  rename_i aC
  have:tmpsOf [x]=[]:=by cases x<;>first | rfl | exact absurd rfl (aC _)
  rw[this]
  split<;>rfl
theorem sI {d:Nat} {ty:TypeId} (aC:(aG d H.c2||aG d H.make||aG d H.own)=false):∀x:Operand,(match x with
 | .tmp i=>if aG d H.own then lL s (s.t i)else if aG d H.c2 then s.tree P ty (.tmp i)else if aG d H.take then(if aG d H.make then e1 (s.drop x) d (s.t i)else some (s.t i,s.drop x))else some ((s.t i).view,s)
 | x=>some (rd P s.t ty x,s))=(match x with
 | .tmp i=>if aG d H.take then some (s.t i,s.drop x)else some ((s.t i).view,s)
 | x=>some (rd P s.t ty x,s)):=by
 intro x
 rw[Bool.or_eq_false_iff,Bool.or_eq_false_iff]at aC
 cases x<;>simp[aC.1.1,aC.1.2,aC.2]
theorem Hl {o:Oper} (h:∀u i,o.op≠.extract u i):ji H o=[]:=by
 unfold ji
 split
 ·rename_i u i e;exact absurd e (h _ _)
 ·rfl
theorem Qd {d:Nat} {ty:TypeId} {op:Op} {pos:String} {af:Array Edge} {gd:Option (Nat×Bool)} {v:V} {s1:ab} (U:cl P H ⟨some d,op,ty,pos,af,gd⟩=true) (aw:fJ P ⟨some d,op,ty,pos,af,gd⟩ s=true) (aY:∀u i,op≠.extract u i) (arL:bw P H d ty op s=some (v,s1)):s1=pr s (gD H ⟨some d,op,ty,pos,af,gd⟩):=by
 have fc:=fun x arL=>Qc (P:=P) (s:=s) (H:=H) (d:=d) (ty:=ty) (v:=v) (s1:=s1) x arL
 unfold bw at arL
 split at arL
 case h_1 x=>exact fc x ((sI (by simpa[cl,and_assoc]using U) x).symm.trans arL)
 case h_2 x=>exact fc x ((sI (by simpa[cl,and_assoc]using U) x).symm.trans arL)
 case h_3=>
  split at arL
  ·obtain⟨rfl,rfl⟩:=Prod.mk.inj (Option.some.inj arL);rfl
  ·cases arL
 case h_6 t ps=>
  split at arL
  ·rename_i bW z hu aD
   split at arL
   ·obtain⟨r,aI,he⟩:=Option.map_eq_some_iff.1 arL
    obtain⟨rfl,rfl⟩:=Prod.mk.inj he
    have hm:aG d H.fa=false:=by simpa[cl,hu]using U
    have sJ:gD H ⟨some d,.build t ps,ty,pos,af,gd⟩=tmpsOf (ps.toList.map (·.2)):=by simp[gD,hm]
    rw[sJ]
    exact P8 _ _ aI
   ·cases arL
  ·rename_i n e z hu aD
   have hm:aG d H.fa=true:=by simpa[cl,hu]using U
   have sJ:gD H ⟨some d,.build t ps,ty,pos,af,gd⟩=[]:=by simp[gD,hm]
   rw[sJ]
   have aC:((ps.toList.map fun p=>(e,p.2)).all fun x=>!isRef (s.aM P 0 x.2))=true:=by
    simpa[fJ,List.all_map,Function.comp_def]using aw
   split at arL
   ·split at arL
    ·rename_i aK
     rw[uR _ aC]at aK
     split at arL
     ·obtain⟨rfl,rfl⟩:=Prod.mk.inj (Option.some.inj arL)
      obtain⟨_,_,he⟩:=Option.map_eq_some_iff.1 aK
      obtain⟨_,rfl⟩:=Prod.mk.inj he
      rfl
     ·cases arL
    ·cases arL
   ·cases arL
  ·cases arL
 case h_7 t n ps=>
  have iQ:aG d H.make=false:=by simpa[cl]using U
  by_cases jl:aG d H.own=true
  ·rw[if_pos jl]at arL
   have sJ:gD H ⟨some d,.buildSlice t n ps,ty,pos,af,gd⟩=tmpsOf (ps.toList.map (·.2)):=by simp[gD,jl]
   rw[sJ]
   split at arL
   ·split at arL
    ·rename_i aK
     split at arL
     ·obtain⟨rfl,rfl⟩:=Prod.mk.inj (Option.some.inj arL)
      exact Qa _ _ aK
     ·cases arL
    ·cases arL
   ·cases arL
  have jl:aG d H.own=false:=by simpa using jl
  have sJ:gD H ⟨some d,.buildSlice t n ps,ty,pos,af,gd⟩=[]:=by simp[gD,jl]
  rw[sJ]
  rw[jl]at arL
  simp only[Bool.false_eq_true,if_false]at arL
  have aC:((ps.toList.map fun p=>(elemOf P t,p.2)).all fun x=>!isRef (s.aM P 0 x.2))=true:=by
   simpa[fJ,List.all_map,Function.comp_def]using aw
  split at arL
  ·split at arL
   ·rename_i aK
    rw[uR _ aC]at aK
    split at arL
    ·rw[iQ]at arL
     simp only[Bool.false_eq_true,if_false]at arL
     obtain⟨rfl,rfl⟩:=Prod.mk.inj (Option.some.inj arL)
     obtain⟨_,_,he⟩:=Option.map_eq_some_iff.1 aK
     obtain⟨_,rfl⟩:=Prod.mk.inj he
     rfl
    ·cases arL
   ·cases arL
  ·cases arL
 case h_9=>
  split at arL<;>first
   | (cases arL;done)
   | (obtain⟨rfl,rfl⟩:=Prod.mk.inj (Option.some.inj arL);rfl)
 case h_15 t l c=>
  obtain⟨iQ,jl⟩:aG d H.make=false∧aG d H.own=false:=by simpa[cl]using U
  split at arL
  ·split at arL
   ·split at arL
    ·rw[iQ,jl]at arL
     simp only[Bool.false_eq_true,if_false]at arL
     obtain⟨rfl,rfl⟩:=Prod.mk.inj (Option.some.inj arL)
     rfl
    ·cases arL
   ·cases arL
  ·cases arL
 case h_16=>
  split at arL
  ·exact sH arL
  ·cases arL
 case h_22 u i=>exact absurd rfl (aY u i)
 case h_23 b args argTypes=>
  obtain⟨args⟩:=args
  obtain⟨argTypes⟩:=argTypes
  dsimp only at arL
  split at arL
  ·exact sH arL
  ·exact sH arL
  ·exact sH arL
  ·have jl:aG d H.own=false:=by simpa[cl]using U
   rw[jl]at arL
   simp only[Bool.false_eq_true,if_false]at arL
   obtain⟨u,hu,he⟩:=Option.map_eq_some_iff.1 arL
   obtain⟨rfl,rfl⟩:=Prod.mk.inj he
   exact drop_eq _
  ·cases arL
 all_goals first
  | (exact sH arL)
  | (split at arL<;>exact sH arL)
  | (simp[cl]at U;done)
  | (cases arL;done)
theorem gJ {x:Option V} (s:ab):(x.map (·,s)).map Prod.fst=x:=by cases x<;>rfl
theorem Qe {d:Nat} {ty:TypeId} {op:Op} {pos:String} {af:Array Edge} {gd:Option (Nat×Bool)} {s2:ab} (U:cl P H ⟨some d,op,ty,pos,af,gd⟩=true) (aw:fJ P ⟨some d,op,ty,pos,af,gd⟩ s=true) (aY:∀u i,op≠.extract u i)
 (ft:∀i,.tmp i∈op.operands.toList→s2.t i=s.t i):(bw P H d ty op s2).map Prod.fst=(bw P H d ty op s).map Prod.fst:=by
 have al:∀ty x,x∈op.operands.toList→s2.aM P ty x=s.aM P ty x:=fun ty x U=>xd fun i hi=>ft i (hi▸U)
 have aO:∀ty x,x∈op.operands.toList→s2.all P ty x=s.all P ty x:=fun ty x U=>xe fun i hi=>ft i (hi▸U)
 have fc:∀x:Operand,x∈op.operands.toList→Option.map Prod.fst (match x with
  | .tmp i=>if aG d H.take then some (s2.t i,s2.drop x)else some ((s2.t i).view,s2)
  | x=>some (rd P s2.t ty x,s2))=Option.map Prod.fst (match x with
  | .tmp i=>if aG d H.take then some (s.t i,s.drop x)else some ((s.t i).view,s)
  | x=>some (rd P s.t ty x,s)):=by
  intro x U
  cases x with
  | tmp i=>
    dsimp only
    rw[ft i U]
    split<;>rfl
  | _=>rfl
 cases op
 case move x=>
  have aE:(aG d H.c2||aG d H.make||aG d H.own)=false:=by simpa[cl]using U
  have aR:=sI (P:=P) (s:=s) (ty:=ty) aE x
  have a7:=sI (P:=P) (s:=s2) (ty:=ty) aE x
  exact(congrArg (Option.map Prod.fst) a7).trans ((fc x (by simp[Op.operands])).trans (congrArg (Option.map Prod.fst) aR).symm)
 case assign x=>
  have aE:(aG d H.c2||aG d H.make||aG d H.own)=false:=by simpa[cl]using U
  have aR:=sI (P:=P) (s:=s) (ty:=ty) aE x
  have a7:=sI (P:=P) (s:=s2) (ty:=ty) aE x
  exact(congrArg (Option.map Prod.fst) a7).trans ((fc x (by simp[Op.operands])).trans (congrArg (Option.map Prod.fst) aR).symm)
 case pick c a b=>
  simp only[bw]
  rw[al 0 c (by simp[Op.operands]),al ty a (by simp[Op.operands]),al ty b (by simp[Op.operands])]
  split<;>rfl
 case build t ps=>
  simp only[bw]
  split
  ·split
   ·have:=P7 (P:=P) ‹Array Field› ps.toList (s:=s) (s2:=s2) (cs:=‹List V›) fun i hi=>ft i (by simpa[Op.operands]using hi)
    rw[Option.map_map,Option.map_map]
    have aR:(Prod.fst∘fun r:List V×ab=>(V.agg r.1,r.2))=V.agg∘Prod.fst:=rfl
    rw[aR,←Option.map_map,←Option.map_map,this]
   ·rfl
  ·rename_i n e z hu aD
   have aC:((ps.toList.map fun p=>(e,p.2)).all fun x=>!isRef (s.aM P 0 x.2))=true:=by
    simpa[fJ,List.all_map,Function.comp_def]using aw
   obtain⟨J,aa⟩:=zP (s2:=s2) aC fun i hi=>ft i (by
    simp only[Op.operands]
    simpa[List.map_map,Function.comp_def]using hi)
   rw[uR _ aC,uR _ J,aa]
   split
   ·cases e0 (fun x=>aB.tree s (s.aM P x.1 x.2)) (ps.toList.map fun p=>(e,p.2))with
    | none=>rfl
    | some vs=>
      by_cases ah:(vs.all fun v=>v.flat.length==az P e)=true<;>simp[ah]
   ·rfl
  ·rfl
 case buildSlice t n ps=>
  have iQ:aG d H.make=false:=by simpa[cl]using U
  by_cases jl:aG d H.own=true
  ·simp only[bw,jl,if_true]
   have bj:=P9 (P:=P) (elemOf P t) (ps.toList.map (·.2)) (s:=s) (s2:=s2) fun i hi=>ft i (by simpa[Op.operands]using hi)
   split
   ·cases aR:h0 P (elemOf P t) s2 (ps.toList.map (·.2))with
    | none=>
      rw[aR]at bj
      cases a7:h0 P (elemOf P t) s (ps.toList.map (·.2))with
      | none=>rfl
      | some r=>rw[a7]at bj;cases bj
    | some r=>
      rw[aR]at bj
      cases a7:h0 P (elemOf P t) s (ps.toList.map (·.2))with
      | none=>rw[a7]at bj;cases bj
      | some dS=>
        rw[a7]at bj
        have ar:r.1=dS.1:=Option.some.inj bj
        obtain⟨vs,s3⟩:=r
        obtain⟨nj,Po⟩:=dS
        dsimp only at ar⊢
        subst ar
        split<;>rfl
   ·rfl
  have jl:aG d H.own=false:=by simpa using jl
  have aC:((ps.toList.map fun p=>(elemOf P t,p.2)).all fun x=>!isRef (s.aM P 0 x.2))=true:=by
   simpa[fJ,List.all_map,Function.comp_def]using aw
  obtain⟨J,aa⟩:=zP (s2:=s2) aC fun i hi=>ft i (by
   simp only[Op.operands]
   simpa[List.map_map,Function.comp_def]using hi)
  simp only[bw,iQ,jl,Bool.false_eq_true,if_false]
  rw[uR _ aC,uR _ J,aa]
  split
  ·cases e0 (fun x=>aB.tree s (s.aM P x.1 x.2)) (ps.toList.map fun p=>(elemOf P t,p.2))with
   | none=>rfl
   | some vs=>
     by_cases ah:(vs.all fun v=>v.flat.length==c3 P t)=true<;>simp[ah]
  ·rfl
 case nilCheck x=>
  simp only[bw]
  rw[al 0 x (by simp[Op.operands])]
  split<;>rfl
 case makeSlice t l c=>
  obtain⟨iQ,jl⟩:aG d H.make=false∧aG d H.own=false:=by simpa[cl]using U
  simp only[bw,iQ,jl,Bool.false_eq_true,if_false]
  rw[al 0 l (by simp[Op.operands]),al 0 c (by simp[Op.operands])]
  split
  ·split
   ·split<;>rfl
   ·rfl
  ·rfl
 case slice t x lo hi mx=>
  simp only[bw]
  have J:lo.map (s2.aM P 0)=lo.map (s.aM P 0):=by
   cases lo with
   | none=>rfl
   | some y=>simp only[Option.map];rw[al 0 y (by simp[Op.operands])]
  have aa:hi.map (s2.aM P 0)=hi.map (s.aM P 0):=by
   cases hi with
   | none=>rfl
   | some y=>simp only[Option.map];rw[al 0 y (by simp[Op.operands])]
  have ar:mx.map (s2.aM P 0)=mx.map (s.aM P 0):=by
   cases mx with
   | none=>rfl
   | some y=>simp only[Option.map];rw[al 0 y (by simp[Op.operands])]
  rw[J,aa,ar,al t x (by simp[Op.operands])]
  split
  ·rw[gJ,gJ]
  ·rfl
 case binOp op t x y u=>
  simp only[bw]
  rw[al t x (by simp[Op.operands]),al t y (by simp[Op.operands])]
  split<;>rw[gJ,gJ]
 case unOp op t x=>
  simp only[bw]
  rw[al t x (by simp[Op.operands]),gJ,gJ]
 case convert a b x=>
  simp only[bw]
  rw[al a x (by simp[Op.operands]),gJ,gJ]
 case fieldAddr t x f=>
  simp only[bw]
  rw[al 0 x (by simp[Op.operands]),gJ,gJ]
 case field t x f=>
  simp only[bw]
  rw[al t x (by simp[Op.operands]),gJ,gJ]
  rfl
 case indexAddr t x i=>
  simp only[bw]
  rw[al t x (by simp[Op.operands]),al 0 i (by simp[Op.operands]),gJ,gJ]
 case index t x i=>
  simp only[bw]
  rw[al t x (by simp[Op.operands]),al 0 i (by simp[Op.operands]),gJ,gJ]
 case extract u i=>exact absurd rfl (aY u i)
 case call c=>
  obtain⟨callee,args,argTypes⟩:=c
  cases callee with
  | value f=>rfl
  | invoke r m=>rfl
  | builtin b=>
    obtain⟨args⟩:=args
    obtain⟨argTypes⟩:=argTypes
    simp only[bw]
    split
    ·rename_i t x
     rw[al _ _ (by simp[Op.operands,Call.operands]),gJ,gJ]
     have hm:=aw
     simp only[fJ,List.all_cons,List.all_nil,Bool.and_true,Bool.not_eq_true']at hm
     have e:∀(a b:TypeId) (y:Operand),wv (s.aM P a y)=wv (s.aM P b y):=by
      intro a b y
      cases y with
      | tmp i=>rfl
      | const v=>
        have:∀ty,wv (oW P ty v).view=false:=by intro ty;unfold oW;split<;>rfl
        simp only[ab.aM,rd]
        rw[this,this]
      | func f=>rfl
      | global g=>rfl
     rw[e 0 _]at hm
     unfold wk
     split<;>first | rfl | (rename_i J;rw[J]at hm;cases hm)
    ·rw[al _ _ (by simp[Op.operands,Call.operands]),al _ _ (by simp[Op.operands,Call.operands]),gJ,gJ]
    ·rw[al _ _ (by simp[Op.operands,Call.operands]),al _ _ (by simp[Op.operands,Call.operands]),gJ,gJ]
    ·have jl:aG d H.own=false:=by simpa[cl]using U
     rw[jl]
     simp only[Bool.false_eq_true,if_false]
     rw[aO _ _ (by simp[Op.operands,Call.operands]),al _ _ (by simp[Op.operands,Call.operands]),gJ,gJ]
    ·rfl
 all_goals (simp[cl]at U;done)
end Go.aB
namespace Go.aB
open Go
variable {P:Program} {E:Env} {s s2:ab} {H:Hint} {ev:ds} {o:Oper}
def og (o:Oper) (s s2:ab):Prop:=∀i,.tmp i∈o.op.operands.toList→s2.t i=s.t i
theorem og.aM (h:og o s s2) {x:Operand} (U:x∈o.op.operands.toList) (ty:TypeId):s2.aM P ty x=s.aM P ty x:=xd fun i hi=>h i (hi▸U)
theorem Qf (h:og o s s2):fJ P o s2=fJ P o s:=by
 obtain⟨dst,op,ty,pos,af,gd⟩:=o
 have al:=fun(x:Operand) (U:x∈op.operands.toList) ty=>og.aM (P:=P) h U ty
 have all_congr:∀{α:Type} (l:List α) (f g:α→Bool),(∀x∈l,f x=g x)→l.all f=l.all g:=by
  intro α l f g bj
  induction l with
  | nil=>rfl
  | cons a l ag=>simp only[List.all_cons];rw[bj a List.mem_cons_self,ag fun x U=>bj x (List.mem_cons_of_mem _ U)]
 unfold fJ
 dsimp only
 split
 ·rename_i t ps
  refine all_congr _ _ _ fun p arM=>?_
  rw[al p.2 (by simp only[Op.operands];simpa using⟨p.1,Array.mem_toList_iff.1 arM⟩)]
 ·rename_i t n ps
  refine all_congr _ _ _ fun p arM=>?_
  rw[al p.2 (by simp only[Op.operands];simpa using⟨p.1,Array.mem_toList_iff.1 arM⟩)]
 ·rename_i f args tys
  rw[al f (by simp[Op.operands,Call.operands])]
  congr 1
  refine all_congr _ _ _ fun x U=>?_
  rw[al x (by simp only[Op.operands,Call.operands];simp;exact .inr (Array.mem_toList_iff.1 U))]
 ·rename_i args tys
  refine all_congr _ _ _ fun x U=>?_
  rw[al x (by simp only[Op.operands,Call.operands];simpa using U)]
 ·rfl
theorem CS (h:cl P H o=true):∃d,o.dst=some d:=by
 unfold cl at h
 split at h
 ·cases h
 ·exact⟨_,by assumption⟩
theorem CT {args:Array Operand} {tys:Array TypeId} (h:(args.toList.all fun x=>!isRef (s.aM P 0 x))=true):((tys.toList.zip args.toList).all fun x=>!isRef (s.aM P 0 x.2))=true:=by
 rw[List.all_eq_true]at h⊢
 intro x U
 exact h x.2 (List.of_mem_zip U).2
theorem Qg (U:cl E.P (E.H s.f) o=true) (aw:fJ E.P o s=true) (ft:og o s s2) (aC:s2.n=s.n) (aJ:s2.f=s.f):eb E ev o s2=eb E ev o s:=by
 obtain⟨dst,op,ty,pos,af,gd⟩:=o
 obtain⟨d,nq⟩:=CS U
 dsimp only at nq
 subst nq
 unfold eb
 dsimp only
 split
 ·rename_i u i
  rw[ft u (by simp[Op.operands]),aJ]
 ·rename_i f args tys
  have al:=fun(x:Operand) U ty=>og.aM (P:=E.P) (x:=x) ft U ty
  rw[al f (by simp[Op.operands,Call.operands])]
  simp only[fJ,Bool.and_eq_true]at aw
  have J:=CT (tys:=tys) aw.2
  obtain⟨aa,ar⟩:=zP (s2:=s2) J fun i hi=>ft i (by
   obtain⟨x,U,he⟩:=List.mem_map.1 hi
   have:=(List.of_mem_zip U).2
   rw[he]at this
   simp only[Op.operands,Call.operands];simp;exact .inr (Array.mem_toList_iff.1 this))
  rw[xf _ J,xf _ aa,ar,aC]
  have po:∀g,dQ E g (some d) s2=dQ E g (some d) s:=fun g=>by unfold dQ;rw[aJ]
  simp only[po]
  cases s.aM E.P 0 f with
  | fn g bg=>
    cases bg with
    | nil=>cases e0 (fun x=>aB.tree s (s.aM E.P x.1 x.2)) (tys.toList.zip args.toList)<;>rfl
    | cons _ _=>rfl
  | _=>rfl
 ·rename_i J aa
  rw[aJ]
  by_cases he:∃u i,op=.extract u i
  ·obtain⟨u,i,rfl⟩:=he
   have hu:∀j,u≠.tmp j:=fun j e=>J j i (by rw[e])
   unfold bw
   cases u with
   | tmp j=>exact absurd rfl (hu j)
   | _=>rfl
  ·exact Qe U aw (fun u i e=>he ⟨u,i,e⟩) ft
theorem Qh {v:V} (U:cl E.P (E.H s.f) o=true) (aw:fJ E.P o s=true) (dr:fr s o=true) (arL:eb E ev o s=some v) (aY:∀u i,o.op≠.extract u i):eL E ev o s=some (s.dR (E.H s.f) o v):=by
 obtain⟨dst,op,ty,pos,af,gd⟩:=o
 obtain⟨d,nq⟩:=CS U
 dsimp only at nq
 subst nq
 rw[CR _ _ (Hl aY)]
 unfold eb at arL
 unfold eL
 dsimp only at arL⊢
 split at arL
 ·rename_i u i;exact absurd rfl (aY _ _)
 ·rename_i f args tys
  simp only[fJ,Bool.and_eq_true]at aw
  have J:=CT (tys:=tys) aw.2
  split at arL
  ·rename_i g vs Mc aJ aO
   have Hm:=aO
   rw[xf _ J]at Hm
   obtain⟨kA,wM,he⟩:=Option.map_eq_some_iff.1 Hm
   obtain⟨rfl,rfl⟩:=Prod.mk.inj he
   split at arL
   ·rename_i ah
    have zN:(kA++[]).any isRef=false:=by
     obtain⟨ai,hm⟩:=BT wM
     cases ad:(kA++[]).any isRef with
     | false=>rfl
     | true=>
       obtain⟨y,aA,aI⟩:=List.any_eq_true.1 ad
       rw[List.append_nil]at aA
       obtain⟨j,au,rfl⟩:=List.getElem_of_mem aA
       have di:j<(tys.toList.zip args.toList).length:=by omega
       obtain⟨z,hP,z2⟩:=hm j _ (List.getElem?_eq_getElem di)
       rw[List.getElem?_eq_getElem au]at hP
       have aI:=aI
       have z3:=Option.some.inj hP
       rw[←z3]at z2
       generalize kA[j]=dT at aI z2
       have aC:=List.all_eq_true.1 J _ (List.getElem_mem di)
       simp only[Bool.not_eq_true']at aC
       rw[zO 0 ((tys.toList.zip args.toList)[j]).1]at aC
       generalize s.aM E.P ((tys.toList.zip args.toList)[j]).1 ((tys.toList.zip args.toList)[j]).2=q at z2 aC
       unfold aB.tree at z2
       split at z2
       ·cases aC
       ·split at z2
        ·obtain rfl:=Option.some.inj z2;cases aI
        ·cases z2
       ·split at z2
        ·rename_i arM
         obtain rfl:=Option.some.inj z2
         cases q with
         | fn eP bJ=>
           cases bJ with
           | nil=>cases aI
           | cons _ _=>cases arM
         | slc own sz l=>cases aI
         | _=>first | (cases aI;done) | (cases arM;done)
        ·cases z2
    have qc:gC E (some d) f args tys [] s=match E.bm g kA with
     | some v=>.go [] (s.cV (some d) v)
     | none=>.call g kA [] (true,dQ E g (some d) s,false) (some d) [] s:=by
     obtain⟨xg,oh⟩:aG d (E.H s.f).fI=false∧aG d (E.H s.f).iL=false:=by
      have:=U
      simp[cl]at this
      exact this.2
     have uS:gB (some d) (E.H s.f).fI=false:=xg
     have uT:gB (some d) (E.H s.f).iL=false:=oh
     rw[yY uS uT]
     unfold jy
     rw[aJ,aO]
     dsimp only
     rw[if_pos ah,zN]
     simp only[Bool.false_or,List.isEmpty_nil,Bool.not_true,Bool.false_eq_true,if_false,List.append_nil]
     cases E.bm g kA<;>rfl
    show eC E ev (gC E (some d) f args tys [] s)=some ((pr s []).cV (some d) v)
    rw[qc,Qb]
    split at arL
    ·rename_i aj
     rw[aj]
     obtain rfl:=Option.some.inj arL
     rfl
    ·rename_i aj
     rw[aj]
     dsimp only[eC]
     split at arL
     ·rename_i bn
      obtain⟨r,aI,rfl⟩:=Option.map_eq_some_iff.1 arL
      rw[bn]
      dsimp only
      rw[aI]
      rfl
     ·cases arL
   ·cases arL
  ·cases arL
 ·rename_i J aa
  obtain⟨⟨bF,s1⟩,ec,rfl⟩:=Option.map_eq_some_iff.1 arL
  have cQ:=Qd U aw aY ec
  have aL:d<s.n:=by simpa[fr]using dr
  have he:jx E.P (E.H s.f) ⟨some d,op,ty,pos,af,gd⟩ s=some (s1.put d bF):=by
   unfold jx
   dsimp only
   rw[if_pos aL]
   show Option.map _ (bw E.P (E.H s.f) d ty op s)=_
   rw[show bw E.P (E.H s.f) d ty op s=some (bF,s1)from ec]
   rfl
  rw[cQ]at he
  split
  ·exact absurd rfl (aa _ _ _)
  ·exact he
end Go.aB
