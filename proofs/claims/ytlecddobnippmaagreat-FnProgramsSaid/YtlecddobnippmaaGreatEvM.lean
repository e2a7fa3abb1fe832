/- A region whose order is drawn: all orders come to the same. A region in its order; a function's end. -/
import Derived.Test.YtlecddobnippmaaGreatEvL
import Derived.Test.YtlecddobnippmaaGreatEvK
set_option linter.unusedVariables false
set_option linter.unusedSimpArgs false
namespace Go.aB
open Go
variable {E:Env} {s:ab} {ev:ds} {all:Array Oper}
theorem C1 {o:Oper} {i:Nat} (h:.tmp i∈o.op.operands.toList):aG i (looks all o)=true:=by
 unfold looks
 rw[mG,P4 h];rfl
theorem QI {o:Oper} {j d:Nat} {want:Bool} (av:o.guard=some (j,want)) (aw:(all[j]?).bind (·.dst)=some d):aG d (looks all o)=true:=by
 unfold looks
 rw[mG,av]
 dsimp only
 rw[aw]
 simp[aG]
def oi (all:Array Oper) (o:Oper) (s s2:ab):Prop:=∀x,aG x (looks all o)=true→s2.t x=s.t x
theorem oi.op {o:Oper} {s s2:ab} (h:oi all o s s2):og o s s2:=fun i hi=>h i (C1 hi)
theorem oi.guard {o:Oper} {s s2:ab} (h:oi all o s s2):ha all o s2=ha all o s:=Qt (fun j want d av aw=>h d (QI av aw)) rfl
structure QJ (E:Env) (ev:ds) (all:Array Oper) (i:Nat) (o:Oper) (s:ab) (D C:List Nat) (v:V) (gx:List (Nat×V)):Prop where
 sub:∀x,aG x D=true∨aG x C=true→aG x (c0 (E.H s.f) o)=true
 kind:gx=[]∨(gx=[(i,v)]∧dj (E.H s.f) o=true)
 val:gx=[]∨fB E ev o s=some v
 again:∀s2 xk,s2.n=s.n→s2.f=s.f→oi all o s s2→(gx=[]∨fB E ev o s2=some v)→c1 E ev all i s2 xk=some (wt s2 (cW s2.t D C o.dst v),gx++xk)
theorem Hv (d:Option Nat) (v:V):s.cV d v=wt s (cW s.t [] [] d v):=by
 cases d with
 | none=>show s=_;unfold wt cW;simp[aG]
 | some d=>
   show s.put d v=_
   unfold ab.put wt ae cW
   congr 1
   funext x
   by_cases e:x=d
   ·subst e;simp
   ·have:¬d=x:=fun h=>e h.symm
    simp[e,this,aG]
theorem zT {i:Nat} {done d1:List (Nat×V)} {s1:ab} (h:c1 E ev all i s done=some (s1,d1)):∃o,all[i]?=some o∧
 ((∃D C v gx,s1=wt s (cW s.t D C o.dst v)∧d1=gx++done∧QJ E ev all i o s D C v gx)∨
  (ha all o s=some true∧cl E.P (E.H s.f) o=false∧dj (E.H s.f) o=false∧eL E ev o s=some s1∧still E ev all i s1 done=true∧d1=done)):=by
 unfold c1 at h
 cases aj:all[i]? with
 | none=>rw[aj]at h;cases h
 | some o=>
   rw[aj]at h
   dsimp only at h
   refine⟨o,rfl,?_⟩
   cases av:ha all o s with
   | none=>rw[av]at h;cases h
   | some g=>
     rw[av]at h
     cases g with
     | false=>
       dsimp only at h
       obtain⟨rfl,rfl⟩:=Prod.mk.inj (Option.some.inj h)
       refine .inl ⟨[],[],.tup [],[],Hv _ _,rfl,⟨fun x U=>by simp[aG]at U,.inl rfl,.inl rfl,fun s2 xk aC aJ aO _=>?_⟩⟩
       unfold c1
       rw[aj]
       dsimp only
       rw[aO.guard,av]
       dsimp only
       rw[Hv]
       try rfl
     | true=>
       dsimp only at h
       by_cases U:cl E.P (E.H s.f) o=true
       ·rw[if_pos U]at h
        by_cases aw:(fJ E.P o s&&fr s o)=true
        ·rw[if_pos aw]at h
         obtain⟨v,arL,he⟩:=Option.map_eq_some_iff.1 h
         obtain⟨rfl,rfl⟩:=Prod.mk.inj he
         refine .inl ⟨gD (E.H s.f) o,ji (E.H s.f) o,v,[],rfl,rfl,⟨fun x U=>by unfold c0;rw[mG,mG];rcases U with U | U<;>rw[U]<;>simp,.inl rfl,.inl rfl,fun s2 xk aC aJ aO _=>?_⟩⟩
         simp only[Bool.and_eq_true]at aw
         unfold c1
         rw[aj]
         dsimp only
         rw[aO.guard,av]
         dsimp only
         rw[aJ,if_pos U]
         have xl:(fJ E.P o s2&&fr s2 o)=true:=by
          rw[Qf aO.op,aw.1]
          unfold fr at aw⊢
          rw[aC,aw.2]
          rfl
         rw[if_pos xl,Qg U aw.1 aO.op aC aJ,arL]
         try rfl
        ·rw[if_neg aw]at h;cases h
       ·rw[if_neg U]at h
        by_cases ai:dj (E.H s.f) o=true
        ·rw[if_pos ai]at h
         by_cases aw:fr s o=true
         ·rw[if_pos aw]at h
          obtain⟨v,arL,he⟩:=Option.map_eq_some_iff.1 h
          obtain⟨rfl,rfl⟩:=Prod.mk.inj he
          refine .inl ⟨gD (E.H s.f) o,ji (E.H s.f) o,v,[(i,v)],rfl,rfl,⟨fun x U=>by unfold c0;rw[mG,mG];rcases U with U | U<;>rw[U]<;>simp,.inr ⟨rfl,ai⟩,.inr arL,fun s2 xk aC aJ aO cG=>?_⟩⟩
          unfold c1
          rw[aj]
          dsimp only
          rw[aO.guard,av]
          dsimp only
          rw[aJ,if_neg U,if_pos ai]
          have xl:fr s2 o=true:=by
           unfold fr at aw⊢
           rw[aC,aw]
          have QK:fB E ev o s2=some v:=by
           rcases cG with h | h
           ·cases h
           ·exact h
          rw[if_pos xl,QK]
          try rfl
         ·rw[if_neg aw]at h;cases h
        ·rw[if_neg ai]at h
         split at h
         ·rename_i s2 J
          split at h
          ·rename_i cQ
           obtain⟨rfl,rfl⟩:=Prod.mk.inj (Option.some.inj h)
           exact .inr ⟨rfl,by simpa using U,by simpa using ai,J,cQ,rfl⟩
          ·cases h
         ·cases h
theorem Hw {i:Nat} {done:List (Nat×V)} {s1:ab} {o:Oper} (aj:all[i]?=some o) (av:ha all o s=some true) (U:cl E.P (E.H s.f) o=false) (ai:dj (E.H s.f) o=false) (cQ:eL E ev o s=some s1) (al:still E ev all i s1 done=true):c1 E ev all i s done=some (s1,done):=by
 unfold c1
 rw[aj]
 dsimp only
 rw[av]
 simp[U,ai,cQ,al]
theorem xm {i:Nat}:∀{l:List (Nat×V)},still E ev all i s l=true↔∀k v,(k,v)∈l→prec all all.size k i=true∨∃o,all[k]?=some o∧fB E ev o s=some v:=by
 intro l
 induction l with
 | nil=>simp[still]
 | cons x l ag=>
   obtain⟨k,v⟩:=x
   unfold still
   rw[Bool.and_eq_true,ag]
   constructor
   ·rintro⟨J,aa⟩ bI bF hm
    rcases List.mem_cons.1 hm with e | hm
    ·obtain⟨rfl,rfl⟩:=Prod.mk.inj e
     rw[Bool.or_eq_true]at J
     rcases J with J | J
     ·exact .inl J
     ·right
      split at J
      ·rename_i o aj
       refine⟨o,aj,?_⟩
       split at J
       ·assumption
       ·cases J
      ·cases J
    ·exact aa bI bF hm
   ·intro h
    refine⟨?_,fun bI bF hm=>h bI bF (List.mem_cons_of_mem _ hm)⟩
    rw[Bool.or_eq_true]
    rcases h k v List.mem_cons_self with J | ⟨o,aj,J⟩
    ·exact .inl J
    ·right;rw[aj];simp[J]
theorem QL:∀(c:List Nat) {s:ab} {d cy:List (Nat×V)},(∀x,x∈d↔x∈cy)→gE E ev all c s d=gE E ev all c s cy:=by
 intro c
 induction c with
 | nil=>intro s d cy _;rfl
 | cons i c ag=>
   intro s d cy h
   have cQ:∀s1,still E ev all i s1 d=still E ev all i s1 cy:=by
    intro s1
    rw[Bool.eq_iff_iff,xm,xm]
    exact⟨fun bj k v hm=>bj k v ((h _).2 hm),fun bj k v hm=>bj k v ((h _).1 hm)⟩
   show(c1 E ev all i s d).bind _=(c1 E ev all i s cy).bind _
   unfold c1
   cases all[i]? with
   | none=>rfl
   | some o=>
     dsimp only
     cases ha all o s with
     | none=>rfl
     | some g=>
       cases g with
       | false=>exact ag h
       | true=>
         dsimp only
         split
         ·split
          ·cases eb E ev o s with
           | none=>rfl
           | some v=>exact ag h
          ·rfl
         ·split
          ·split
           ·cases fB E ev o s with
            | none=>rfl
            | some v=>exact ag fun x=>by simp[h x]
           ·rfl
          ·cases eL E ev o s with
           | none=>rfl
           | some s1=>
             dsimp only
             rw[cQ]
             split
             ·exact ag h
             ·rfl
theorem QM {l m:List Nat} (h:lN l m=true) {x:Nat} (U:aG x l=true):aG x m=false:=by
 unfold lN at h
 have:=List.all_eq_true.1 h x (qa.1 U)
 simpa using this
theorem sL {l m:List Nat} (h:lN l m=true) {x:Nat} (U:aG x m=true):aG x l=false:=by
 cases e:aG x l with
 | false=>rfl
 | true=>rw[QM h e]at U;cases U
theorem nr {t:Nat→V} {D C:List Nat} {o:Oper} {v:V} {H:Hint} (mB:∀x,aG x D=true∨aG x C=true→aG x (c0 H o)=true) {x:Nat} (U:aG x (c0 H o)=false):cW t D C o.dst v x=t x:=by
 unfold cW
 have J:o.dst≠some x:=by
  intro e
  unfold c0 at U
  rw[mG,e]at U
  simp[aG]at U
 have aa:aG x D=false:=by
  cases e:aG x D with
  | false=>rfl
  | true=>rw[mB x (.inl e)]at U;cases U
 have ar:aG x C=false:=by
  cases e:aG x C with
  | false=>rfl
  | true=>rw[mB x (.inr e)]at U;cases U
 rw[if_neg J,aa,ar];rfl
theorem zU {t bY:Nat→V} {D C:List Nat} {d:Option Nat} {v:V} {x:Nat} (h:t x=bY x):cW t D C d v x=cW bY D C d v x:=by
 unfold cW;rw[h]
def oj (E:Env) (H:Hint) (all:Array Oper) (done:List (Nat×V)) (c:List Nat):Prop:=∀k v,(k,v)∈done→∃o,all[k]?=some o∧dj H o=true∧∀b∈c,∀ob,all[b]?=some ob→lN (c0 H ob) (looks all o)=true
theorem C2 {H:Hint} {a i:Nat} (h:r2 E.P H all a i=true):∃x y,all[a]?=some x∧all[i]?=some y∧((cl E.P H x=true∧(cl E.P H y=true∨dj H y=true∨iM H y=true))∨(dj H x=true∧(cl E.P H y=true∨dj H y=true∨iM H y=true))∨(iM H x=true∧cl E.P H y=true))∧
 lN (c0 H x) (looks all y++c0 H y)=true∧lN (c0 H y) (looks all x++c0 H x)=true:=by
 unfold r2 at h
 split at h
 ·rename_i x y U aA
  refine⟨x,y,U,aA,?_⟩
  simp only[Bool.and_eq_true,Bool.or_eq_true]at h
  obtain⟨⟨J,aa⟩,ar⟩:=h
  refine⟨?_,aa,ar⟩
  rcases J with (⟨J,aP⟩ | ⟨J,aP⟩) | ⟨J,aP⟩
  ·exact .inl ⟨J,by rcases aP with (aP | aP) | aP<;>simp[aP]⟩
  ·exact .inr (.inl ⟨J,by rcases aP with (aP | aP) | aP<;>simp[aP]⟩)
  ·exact .inr (.inr ⟨J,aP⟩)
 ·cases h
theorem Hy {H:Hint} {o:Oper} {P:Program}:(cl P H o=true→dj H o=false∧iM H o=false)∧(dj H o=true→iM H o=false∧cl P H o=false):=by
 obtain⟨dst,op,ty,pos,af,gd⟩:=o
 cases dst with
 | none=>simp[cl,dj]
 | some d=>
   cases op<;>simp[cl,dj,iM]
   rename_i c
   obtain⟨xh,args,tys⟩:=c
   cases xh<;>simp
   cases aG d H.deep<;>cases aG d H.ro<;>cases aG d H.fI<;>cases aG d H.iL<;>simp
theorem C3 {o:Oper} {s1:ab} (h:eL E ev o s=some s1):s1.f=s.f∧s1.n=s.n:=by
 unfold eL at h
 split at h
 ·rename_i f args tys _
  unfold gC at h
  split at h
  ·unfold m3 at h
   split at h
   ·split at h
    ·unfold eC at h
     dsimp only at h
     split at h
     ·cases h
     ·split at h
      ·cases h
      ·obtain rfl:=Option.some.inj h
       unfold h1
       exact⟨(bp.cV _ _ _).f,(bp.cV _ _ _).n⟩
    ·cases h
   ·cases h
  split at h
  ·unfold tV at h
   split at h
   ·rename_i aO
    have aN:=bp.hI _ aO
    split at h
    ·unfold eC at h
     dsimp only at h
     split at h
     ·cases h
     ·split at h
      ·cases h
      ·obtain rfl:=Option.some.inj h
       unfold h1
       exact⟨(bp.cV _ _ _).f.trans aN.f,(bp.cV _ _ _).n.trans aN.n⟩
    ·cases h
   ·cases h
  unfold jy at h
  split at h
  ·rename_i aO
   have aN:=bp.args _ aO
   split at h
   ·split at h
    ·unfold eC at h
     dsimp only at h
     split at h
     ·cases h
     ·split at h
      ·cases h
      ·obtain rfl:=Option.some.inj h
       unfold h1
       exact⟨(bp.cV _ _ _).f.trans aN.f,(bp.cV _ _ _).n.trans aN.n⟩
    ·split at h
     ·obtain rfl:=Option.some.inj h
      exact⟨(bp.cV _ _ _).f.trans aN.f,(bp.cV _ _ _).n.trans aN.n⟩
     ·unfold eC at h
      dsimp only at h
      split at h
      ·cases h
      ·split at h
       ·cases h
       ·obtain rfl:=Option.some.inj h
        unfold h1
        exact⟨(bp.cV _ _ _).f.trans aN.f,(bp.cV _ _ _).n.trans aN.n⟩
   ·cases h
  ·cases h
 ·unfold jx at h
  split at h
  ·split at h
   ·obtain⟨r,aI,rfl⟩:=Option.map_eq_some_iff.1 h
    have aN:=bp.bw aI
    exact⟨aN.f,aN.n⟩
   ·cases h
  ·have aN:=bp.gu h
   exact⟨aN.f,aN.n⟩
theorem C4 {H:Hint} {a i:Nat} (h:y0 H all a i=true):∃d cy u k bI ty pos af ty' pos' hS,all[a]?=some ⟨some d,.extract (.tmp u) k,ty,pos,af,none⟩∧all[i]?=some ⟨some cy,.extract (.tmp u) bI,ty',pos',hS,none⟩∧aG d H.own=true∧aG cy H.own=false∧d≠cy∧d≠u∧cy≠u:=by
 unfold y0 at h
 split at h
 ·rename_i d u k ty pos af cy kW bI ty' pos' hS J aa
  simp only[Bool.and_eq_true,beq_iff_eq,bne_iff_ne,Bool.not_eq_true']at h
  obtain⟨⟨⟨⟨⟨rfl,aP⟩,bf⟩,b4⟩,dh⟩,cH⟩:=h
  exact⟨d,cy,u,k,bI,ty,pos,af,ty',pos',hS,J,aa,aP,bf,b4,dh,cH⟩
 ·cases h
theorem zV {i:Nat} {done:List (Nat×V)} {d u k:Nat} {ty:TypeId} {pos:String} {af:Array Edge} (h:all[i]?=some ⟨some d,.extract (.tmp u) k,ty,pos,af,none⟩):
 c1 E ev all i s done=if d<s.n then(match s.t u with
  | .tup l=>(l[k]?).map (jz (E.H s.f) d)
  | _=>none).map fun v=>(s.dR (E.H s.f) ⟨some d,.extract (.tmp u) k,ty,pos,af,none⟩ v,done)else none:=by
 unfold c1
 rw[h]
 have aR:ha all ⟨some d,.extract (.tmp u) k,ty,pos,af,none⟩ s=some true:=rfl
 have a7:cl E.P (E.H s.f) ⟨some d,.extract (.tmp u) k,ty,pos,af,none⟩=true:=rfl
 dsimp only
 rw[aR]
 dsimp only
 rw[if_pos a7]
 by_cases aw:d<s.n
 ·rw[if_pos aw,if_pos (show(fJ E.P ⟨some d,.extract (.tmp u) k,ty,pos,af,none⟩ s&&fr s ⟨some d,.extract (.tmp u) k,ty,pos,af,none⟩)=true from by simp[fJ,fr,aw])]
  rfl
 ·rw[if_neg aw,if_neg (by simp[fJ,fr,aw])]
theorem QN {a i:Nat} {done d1 d2:List (Nat×V)} {s1 s2:ab} (ah:y0 (E.H s.f) all a i=true)
 (J:c1 E ev all a s done=some (s1,d1)) (aa:c1 E ev all i s1 d1=some (s2,d2)):∃s3 d3 d4,c1 E ev all i s done=some (s3,d3)∧c1 E ev all a s3 d3=some (s2,d4)∧∀x,x∈d4↔x∈d2:=by
 obtain⟨d,cy,u,k,bI,ty,pos,af,ty',pos',hS,U,aA,hL,mA,fk,hx,hN⟩:=C4 ah
 rw[zV U]at J
 split at J
 rotate_left
 ·cases J
 rename_i aw
 obtain⟨v,arL,he⟩:=Option.map_eq_some_iff.1 J
 obtain⟨rfl,rfl⟩:=Prod.mk.inj he
 split at arL
 rotate_left
 ·cases arL
 rename_i l hu
 obtain⟨v0,uE,rfl⟩:=Option.map_eq_some_iff.1 arL
 have c4:ji (E.H s.f) ⟨some d,.extract (.tmp u) k,ty,pos,af,none⟩=[u]:=by
  show(if aG d (E.H s.f).own then[u]else[])=_
  rw[if_pos hL]
 have cu:ji (E.H s.f) ⟨some cy,.extract (.tmp u) bI,ty',pos',hS,none⟩=[]:=by
  show(if aG cy (E.H s.f).own then[u]else[])=_
  rw[mA];rfl
 have t1:(s.dR (E.H s.f) ⟨some d,.extract (.tmp u) k,ty,pos,af,none⟩ (jz (E.H s.f) d v0)).t u=.tup (l.map V.view):=by
  unfold ab.dR
  rw[c4]
  show cW s.t [] [u] (some d) (jz (E.H s.f) d v0) u=_
  unfold cW
  rw[if_neg (fun e=>hx (Option.some.inj e)),if_neg (by simp[aG]),if_pos (by simp[aG]),hu]
  rfl
 rw[zV aA]at aa
 split at aa
 rotate_left
 ·cases aa
 rename_i C5
 obtain⟨w,hw,QO⟩:=Option.map_eq_some_iff.1 aa
 obtain⟨rfl,rfl⟩:=Prod.mk.inj QO
 rw[t1]at hw
 dsimp only at hw
 rw[List.getElem?_map,Option.map_map]at hw
 obtain⟨cT,sM,rfl⟩:=Option.map_eq_some_iff.1 hw
 have xl:cy<s.n:=C5
 have QP:(jz (E.H s.f) cy∘V.view) cT=cT.view:=by
  show jz (E.H s.f) cy cT.view=cT.view
  unfold jz
  rw[mA]
  exact V.pU _
 refine⟨s.dR (E.H s.f) ⟨some cy,.extract (.tmp u) bI,ty',pos',hS,none⟩ cT.view,done,done,?_,?_,fun _=>Iff.rfl⟩
 ·rw[zV aA,if_pos xl,hu]
  dsimp only
  rw[sM]
  have QQ:jz (E.H s.f) cy cT=cT.view:=by unfold jz;rw[mA];rfl
  show some (s.dR _ _ (jz (E.H s.f) cy cT),done)=_
  rw[QQ]
 ·have t2:(s.dR (E.H s.f) ⟨some cy,.extract (.tmp u) bI,ty',pos',hS,none⟩ cT.view).t u=.tup l:=by
   unfold ab.dR
   rw[cu]
   show cW s.t [] [] (some cy) cT.view u=_
   unfold cW
   rw[if_neg (fun e=>hN (Option.some.inj e)),if_neg (by simp[aG]),if_neg (by simp[aG]),hu]
  rw[zV U,if_pos (show d<(s.dR (E.H s.f) ⟨some cy,.extract (.tmp u) bI,ty',pos',hS,none⟩ cT.view).n from aw),t2]
  dsimp only
  rw[uE]
  show some ((s.dR (E.H s.f) ⟨some cy,.extract (.tmp u) bI,ty',pos',hS,none⟩ cT.view).dR (E.H s.f) ⟨some d,.extract (.tmp u) k,ty,pos,af,none⟩ (jz (E.H s.f) d v0),done)=some (((s.dR (E.H s.f) ⟨some d,.extract (.tmp u) k,ty,pos,af,none⟩ (jz (E.H s.f) d v0)).dR (E.H s.f) ⟨some cy,.extract (.tmp u) bI,ty',pos',hS,none⟩ ((jz (E.H s.f) cy∘V.view) cT)),done)
  rw[QP]
  generalize jz (E.H s.f) d v0=v0
  refine congrArg (fun x=>some (x,done)) ?_
  unfold ab.dR
  dsimp only
  rw[c4,cu]
  refine congrArg (fun x=>({s with t:=x}:ab)) ?_
  show cW (cW s.t [] [] (some cy) cT.view) [] [u] (some d) v0=cW (cW s.t [] [u] (some d) v0) [] [] (some cy) cT.view
  funext z
  unfold cW
  by_cases hP:z=d
  ·subst hP
   simp[aG,fk,Ne.symm fk]
  ·by_cases z2:z=cy
   ·subst z2
    simp[aG,fk,hN,Ne.symm hN,Ne.symm hP,hP]
   ·simp[aG,Ne.symm hP,Ne.symm z2,hP,z2]
theorem C6 {H:Hint} {a i:Nat} (h:yZ H all a i=true):∃d cy u ty pos af ty' pos' hS,all[a]?=some ⟨some d,.move (.tmp u),ty,pos,af,none⟩∧all[i]?=some ⟨some cy,.move (.tmp u),ty',pos',hS,none⟩∧aG d H.take=true∧(aG d H.c2||aG d H.make||aG d H.own)=false∧aG cy H.take=false∧(aG cy H.c2||aG cy H.make||aG cy H.own)=false∧d≠cy∧d≠u∧cy≠u:=by
 unfold yZ at h
 split at h
 ·rename_i d u ty pos af cy kW ty' pos' hS J aa
  rw[Bool.and_eq_true,Bool.and_eq_true,Bool.and_eq_true,Bool.and_eq_true,Bool.and_eq_true,Bool.and_eq_true,Bool.and_eq_true]at h
  obtain⟨⟨⟨⟨⟨⟨⟨ar,aP⟩,bf⟩,b4⟩,dh⟩,cH⟩,gk⟩,uK⟩:=h
  obtain rfl:u=kW:=by simpa using ar
  exact⟨d,cy,u,ty,pos,af,ty',pos',hS,J,aa,aP,by simpa using bf,by simpa using b4,by simpa using dh,by simpa using cH,by simpa using gk,by simpa using uK⟩
 ·cases h
theorem zW {i:Nat} {done:List (Nat×V)} {d u:Nat} {ty:TypeId} {pos:String} {af:Array Edge} (h:all[i]?=some ⟨some d,.move (.tmp u),ty,pos,af,none⟩) (aE:(aG d (E.H s.f).c2||aG d (E.H s.f).make||aG d (E.H s.f).own)=false):
 c1 E ev all i s done=if d<s.n then some (s.dR (E.H s.f) ⟨some d,.move (.tmp u),ty,pos,af,none⟩ (if aG d (E.H s.f).take then s.t u else(s.t u).view),done)else none:=by
 unfold c1
 rw[h]
 have aR:ha all ⟨some d,.move (.tmp u),ty,pos,af,none⟩ s=some true:=rfl
 have a7:cl E.P (E.H s.f) ⟨some d,.move (.tmp u),ty,pos,af,none⟩=true:=by
  show(!(aG d (E.H s.f).c2||aG d (E.H s.f).make||aG d (E.H s.f).own))=true
  rw[aE];rfl
 dsimp only
 rw[aR]
 dsimp only
 rw[if_pos a7]
 have cj:eb E ev ⟨some d,.move (.tmp u),ty,pos,af,none⟩ s=some (if aG d (E.H s.f).take then s.t u else(s.t u).view):=by
  show(bw E.P (E.H s.f) d ty (.move (.tmp u)) s).map (·.1)=_
  have:=sI (P:=E.P) (s:=s) (ty:=ty) aE (.tmp u)
  have da:bw E.P (E.H s.f) d ty (.move (.tmp u)) s=(if aG d (E.H s.f).take then some (s.t u,s.drop (.tmp u))else some ((s.t u).view,s)):=this
  rw[da]
  split<;>rfl
 by_cases aw:d<s.n
 ·rw[if_pos aw,if_pos (show(fJ E.P ⟨some d,.move (.tmp u),ty,pos,af,none⟩ s&&fr s ⟨some d,.move (.tmp u),ty,pos,af,none⟩)=true from by simp[fJ,fr,aw]),cj]
  rfl
 ·rw[if_neg aw,if_neg (by simp[fJ,fr,aw])]
theorem QR {a i:Nat} {done d1 d2:List (Nat×V)} {s1 s2:ab} (ah:yZ (E.H s.f) all a i=true)
 (J:c1 E ev all a s done=some (s1,d1)) (aa:c1 E ev all i s1 d1=some (s2,d2)):∃s3 d3 d4,c1 E ev all i s done=some (s3,d3)∧c1 E ev all a s3 d3=some (s2,d4)∧∀x,x∈d4↔x∈d2:=by
 obtain⟨d,cy,u,ty,pos,af,ty',pos',hS,U,aA,hL,mA,n2,ar1,fk,hx,hN⟩:=C6 ah
 rw[zW U mA,hL]at J
 split at J
 rotate_left
 ·cases J
 rename_i aw
 obtain⟨rfl,rfl⟩:=Prod.mk.inj (Option.some.inj J)
 have c4:∀d ty pos af,ji (E.H s.f) ⟨some d,.move (.tmp u),ty,pos,af,none⟩=[]:=fun _ _ _ _=>rfl
 have cd:gD (E.H s.f) ⟨some d,.move (.tmp u),ty,pos,af,none⟩=[u]:=by
  show(if aG d (E.H s.f).take then tmpsOf [.tmp u]else[])=_
  rw[hL];rfl
 have dS:gD (E.H s.f) ⟨some cy,.move (.tmp u),ty',pos',hS,none⟩=[]:=by
  show(if aG cy (E.H s.f).take then tmpsOf [.tmp u]else[])=_
  rw[n2];rfl
 rw[if_pos rfl]at aa
 rw[zW (s:=s.dR (E.H s.f) ⟨some d,.move (.tmp u),ty,pos,af,none⟩ (s.t u)) aA ar1]at aa
 split at aa
 rotate_left
 ·cases aa
 rename_i C5
 obtain⟨rfl,rfl⟩:=Prod.mk.inj (Option.some.inj aa)
 have t1:(s.dR (E.H s.f) ⟨some d,.move (.tmp u),ty,pos,af,none⟩ (s.t u)).t u=(s.t u).view:=by
  unfold ab.dR
  rw[cd]
  show cW s.t [u] _ (some d) (s.t u) u=_
  unfold cW
  rw[if_neg (fun e=>hx (Option.some.inj e)),if_pos (by simp[aG])]
 have t2:(s.dR (E.H s.f) ⟨some cy,.move (.tmp u),ty',pos',hS,none⟩ (s.t u).view).t u=s.t u:=by
  unfold ab.dR
  rw[dS,c4]
  show cW s.t [] [] (some cy) (s.t u).view u=_
  unfold cW
  rw[if_neg (fun e=>hN (Option.some.inj e)),if_neg (by simp[aG]),if_neg (by simp[aG])]
 refine⟨s.dR (E.H s.f) ⟨some cy,.move (.tmp u),ty',pos',hS,none⟩ (s.t u).view,done,done,?_,?_,fun _=>Iff.rfl⟩
 ·rw[zW aA ar1,if_pos (show cy<s.n from C5),n2]
  rfl
 ·rw[zW (s:=s.dR (E.H s.f) ⟨some cy,.move (.tmp u),ty',pos',hS,none⟩ (s.t u).view) U mA,if_pos (show d<(s.dR (E.H s.f) ⟨some cy,.move (.tmp u),ty',pos',hS,none⟩ (s.t u).view).n from aw)]
  show some ((s.dR (E.H s.f) ⟨some cy,.move (.tmp u),ty',pos',hS,none⟩ (s.t u).view).dR (E.H s.f) ⟨some d,.move (.tmp u),ty,pos,af,none⟩ (if aG d (E.H s.f).take=true then(s.dR (E.H s.f) ⟨some cy,.move (.tmp u),ty',pos',hS,none⟩ (s.t u).view).t u else _),done)=some ((s.dR (E.H s.f) ⟨some d,.move (.tmp u),ty,pos,af,none⟩ (s.t u)).dR (E.H s.f) ⟨some cy,.move (.tmp u),ty',pos',hS,none⟩ (if aG cy (E.H s.f).take=true then _ else((s.dR (E.H s.f) ⟨some d,.move (.tmp u),ty,pos,af,none⟩ (s.t u)).t u).view),done)
  rw[if_pos hL,if_neg (by rw[n2];simp),t1,t2,V.pU]
  refine congrArg (fun x=>some (x,done)) ?_
  unfold ab.dR
  dsimp only
  rw[cd,dS,c4,c4]
  refine congrArg (fun x=>({s with t:=x}:ab)) ?_
  show cW (cW s.t [] [] (some cy) (s.t u).view) [u] [] (some d) (s.t u)=cW (cW s.t [u] [] (some d) (s.t u)) [] [] (some cy) (s.t u).view
  funext z
  unfold cW
  by_cases hP:z=d
  ·subst hP
   simp[aG,fk,Ne.symm fk]
  ·by_cases z2:z=cy
   ·subst z2
    simp[aG,fk,hN,Ne.symm hN,Ne.symm hP,hP]
   ·simp[aG,Ne.symm hP,Ne.symm z2,hP,z2]
theorem swap {a i:Nat} {done d1 d2:List (Nat×V)} {s1 s2:ab} (ah:(r2 E.P (E.H s.f) all a i||wy (E.H s.f) all a i)=true) (pv:pS (E.H s.f) all a=true) (arM:prec all all.size a i=false) (aw:oj E (E.H s.f) all done [a,i])
 (J:c1 E ev all a s done=some (s1,d1)) (aa:c1 E ev all i s1 d1=some (s2,d2)):∃s3 d3 d4,c1 E ev all i s done=some (s3,d3)∧c1 E ev all a s3 d3=some (s2,d4)∧∀x,x∈d4↔x∈d2:=by
 rcases Bool.or_eq_true _ _▸ah with ah | ah
 rotate_left
 ·rcases Bool.or_eq_true _ _▸ah with ah | ah
  ·exact QN ah J aa
  ·exact QR ah J aa
 obtain⟨x,y,U,aA,Hz,HA,HB⟩:=C2 ah
 have aT:∀z,aG z (looks all y)=true→aG z (c0 (E.H s.f) x)=false:=fun z aD=>sL HA (by rw[mG,aD];rfl)
 have a2:∀z,aG z (c0 (E.H s.f) y)=true→aG z (c0 (E.H s.f) x)=false:=fun z aD=>sL HA (by rw[mG,aD];simp)
 have a3:∀z,aG z (looks all x)=true→aG z (c0 (E.H s.f) y)=false:=fun z aD=>sL HB (by rw[mG,aD];rfl)
 have a4:∀z,aG z (c0 (E.H s.f) x)=true→aG z (c0 (E.H s.f) y)=false:=fun z aD=>sL HB (by rw[mG,aD];simp)
 obtain⟨dz,kz,du⟩:=zT J
 obtain rfl:dz=x:=by rw[U]at kz;exact(Option.some.inj kz).symm
 obtain⟨dT,e3,ic⟩:=zT aa
 obtain rfl:dT=y:=by rw[aA]at e3;exact(Option.some.inj e3).symm
 have QS:=fun o=>Hy (H:=E.H s.f) (o:=o) (P:=E.P)
 rcases du with⟨om,oo,dF,HC,rfl,rfl,oq⟩ | ⟨zX,HD,xn,C7,sN,rfl⟩
 ·have f1:(wt s (cW s.t om oo dz.dst dF)).f=s.f:=rfl
  rcases ic with⟨kC,kD,l5,xo,rfl,rfl,pd⟩ | ⟨HE,xp,li,C8,sN,rfl⟩
  ·
   have sO:∀z,aG z kC=true∨aG z kD=true→aG z (c0 (E.H s.f) dT)=true:=pd.sub
   have sP:oi all dT (wt s (cW s.t om oo dz.dst dF)) s:=fun z aD=>(nr oq.sub (aT z aD)).symm
   have aq:=pd.again s done rfl rfl sP (by
    rcases pd.kind with e | ⟨e,ai⟩
    ·exact .inl e
    ·right
     rcases pd.val with cc | arL
     ·rw[cc]at e;cases e
     ·have:=zR (E:=E) (ev:=ev) (o:=dT) (s:=wt s (cW s.t om oo dz.dst dF)) (t2:=s.t) ai sP.op
      exact this.trans arL)
   have xq:oi all dz s (wt s (cW s.t kC kD dT.dst l5)):=fun z aD=>nr sO (a3 z aD)
   have aF:=oq.again (wt s (cW s.t kC kD dT.dst l5)) (xo++done) rfl rfl xq (by
    rcases oq.kind with e | ⟨e,ai⟩
    ·exact .inl e
    ·right
     rcases oq.val with cc | arL
     ·rw[cc]at e;cases e
     ·exact(zR (E:=E) (ev:=ev) (o:=dz) (s:=s) (t2:=cW s.t kC kD dT.dst l5) ai xq.op).trans arL)
   refine⟨_,_,_,aq,aF.trans ?_,fun z=>(show z∈HC++(xo++done)↔z∈xo++(HC++done)from by simp only[List.mem_append];exact⟨fun h=>by rcases h with h | h | h<;>simp[h],fun h=>by rcases h with h | h | h<;>simp[h]⟩)⟩
   congr 2
   show wt s _=wt s _
   congr 1
   funext z
   show cW (cW s.t kC kD dT.dst l5) om oo dz.dst dF z=cW (cW s.t om oo dz.dst dF) kC kD dT.dst l5 z
   by_cases aD:aG z (c0 (E.H s.f) dz)=true
   ·rw[nr (t:=cW s.t om oo dz.dst dF) sO (a4 z aD)]
    exact zU (nr sO (a4 z aD))
   ·have eW:aG z (c0 (E.H s.f) dz)=false:=by simpa using aD
    rw[nr (t:=cW s.t kC kD dT.dst l5) oq.sub eW]
    exact zU (nr oq.sub eW).symm
  ·
   have b1:iM (E.H s.f) dT=true:=by
    have C9:cl E.P (E.H s.f) dT=false:=xp
    have HF:dj (E.H s.f) dT=false:=li
    rcases Hz with⟨_,h⟩ | ⟨_,h⟩ | ⟨_,h⟩
    ·rcases h with h | h | h
     ·rw[C9]at h;cases h
     ·rw[HF]at h;cases h
     ·exact h
    ·rcases h with h | h | h
     ·rw[C9]at h;cases h
     ·rw[HF]at h;cases h
     ·exact h
    ·rw[C9]at h;cases h
   have sP:oi all dT (wt s (cW s.t om oo dz.dst dF)) s:=fun z aD=>(nr oq.sub (aT z aD)).symm
   obtain⟨bL,cx⟩:=CX (E:=E) (ev:=ev) (o:=dT) (s:=wt s (cW s.t om oo dz.dst dF)) (t2:=s.t) b1 C8 sP.op
   have QT:eL E ev dT s=some (wt s2 fun z=>if aG z (c0 (E.H s.f) dT)then s2.t z else s.t z):=bL
   have HG:∀z,aG z (c0 (E.H s.f) dT)=false→s2.t z=cW s.t om oo dz.dst dF z:=cx
   have QU:ha all dT s=some true:=by rw[←HE];exact(oi.guard (s:=wt s (cW s.t om oo dz.dst dF)) (s2:=s) sP)
   have HH:=C3 C8
   have diff:∀z,aG z (c0 (E.H s.f) dz)=false→(if aG z (c0 (E.H s.f) dT)then s2.t z else s.t z)=s2.t z:=by
    intro z aD
    split
    ·rfl
    ·rename_i h
     have aZ:aG z (c0 (E.H s.f) dT)=false:=by simpa using h
     rw[HG z aZ,nr oq.sub aD]
   have HI:s2.f=s.f:=HH.1
   have HJ:∀(o:Oper) (v:V),dj (E.H s.f) o=true→(∀z,aG z (looks all o)=true→aG z (c0 (E.H s.f) dz)=false)→fB E ev o s2=some v→fB E ev o (wt s2 fun z=>if aG z (c0 (E.H s.f) dT)then s2.t z else s.t z)=some v:=by
    intro o v ai aD arL
    have:=zR (E:=E) (ev:=ev) (o:=o) (s:=s2) (t2:=fun z=>if aG z (c0 (E.H s.f) dT)then s2.t z else s.t z) (by rw[HI];exact ai) (fun i hi=>diff i (aD i (C1 hi)))
    exact this.trans arL
   have HK:still E ev all i (wt s2 fun z=>if aG z (c0 (E.H s.f) dT)then s2.t z else s.t z) done=true:=by
    rw[xm]at sN⊢
    intro k v hm
    rcases sN k v (List.mem_append_right _ hm)with h | ⟨o,aj,arL⟩
    ·exact .inl h
    ·obtain⟨iB,dA,ai,Da⟩:=aw k v hm
     obtain rfl:iB=o:=by rw[aj]at dA;exact(Option.some.inj dA).symm
     exact .inr ⟨iB,aj,HJ iB v ai (fun z aD=>sL (Da a (by simp) dz U) aD) arL⟩
   have aq:c1 E ev all i s done=some (_,done):=Hw aA QU xp li QT HK
   refine⟨_,_,_,aq,(oq.again (wt s2 fun z=>if aG z (c0 (E.H s.f) dT)then s2.t z else s.t z) done HH.2 HI (fun z aD=>?_) ?_).trans ?_,fun z=>Iff.rfl⟩
   ·show(if aG z (c0 (E.H s.f) dT)then s2.t z else s.t z)=s.t z
    rw[if_neg (by rw[a3 z aD];simp)]
   ·rcases oq.kind with e | ⟨e,ai⟩
    ·exact .inl e
    ·right
     have QV:lN (c0 (E.H s.f) dz) (looks all dz)=true:=by
      unfold pS at pv
      rw[U]at pv
      simpa[ai]using pv
     rw[xm]at sN
     rcases sN a dF (by rw[e];exact List.mem_append_left _ (List.mem_singleton.2 rfl))with h | ⟨o,aj,arL⟩
     ·rw[arM]at h;cases h
     ·obtain rfl:o=dz:=by rw[aj]at U;exact Option.some.inj U
      exact HJ o dF ai (fun z aD=>sL QV aD) arL
   ·congr 2
    show wt s2 _=s2
    have:(cW (fun z=>if aG z (c0 (E.H s.f) dT)then s2.t z else s.t z) om oo dz.dst dF)=s2.t:=by
     funext z
     by_cases aD:aG z (c0 (E.H s.f) dz)=true
     ·have aP:=a4 z aD
      rw[HG z aP]
      exact zU (by rw[if_neg (by rw[aP];simp)])
     ·have eW:aG z (c0 (E.H s.f) dz)=false:=by simpa using aD
      rw[nr oq.sub eW]
      exact diff z eW
    exact congrArg (wt s2) this
 ·
  have sQ:iM (E.H s.f) dz=true∧cl E.P (E.H s.f) dT=true:=by
   rcases Hz with⟨h,_⟩ | ⟨h,_⟩ | h
   ·rw[HD]at h;cases h
   ·rw[xn]at h;cases h
   ·exact h
  have uU:=C3 C7
  have QW:cl E.P (E.H s1.f) dT=true:=by rw[uU.1];exact sQ.2
  rcases ic with⟨kC,kD,l5,xo,rfl,rfl,pd⟩ | ⟨HE,xp,li,C8,HK,rfl⟩
  ·have QX:xo=[]:=by
    rcases pd.kind with e | ⟨e,ai⟩
    ·exact e
    ·rw[((QS dT).1 sQ.2).1 |> fun h=>(by rw[uU.1];exact h:dj (E.H s1.f) dT=false)]at ai;cases ai
   subst QX
   have sO:∀z,aG z kC=true∨aG z kD=true→aG z (c0 (E.H s.f) dT)=true:=fun z aD=>by have:=pd.sub z aD;rw[uU.1]at this;exact this
   obtain⟨_,cC⟩:=CX (E:=E) (ev:=ev) (o:=dz) (s:=s) (t2:=s.t) sQ.1 C7 (fun _ _=>rfl)
   have sP:oi all dT s1 s:=fun z aD=>(cC z (aT z aD)).symm
   have aq:=pd.again s d1 uU.2.symm uU.1.symm sP (.inl rfl)
   have xq:oi all dz s (wt s (cW s.t kC kD dT.dst l5)):=fun z aD=>nr sO (a3 z aD)
   obtain⟨bL,_⟩:=CX (E:=E) (ev:=ev) (o:=dz) (s:=s) (t2:=cW s.t kC kD dT.dst l5) sQ.1 C7 xq.op
   have a6:(fun z=>if aG z (c0 (E.H s.f) dz)then s1.t z else cW s.t kC kD dT.dst l5 z)=cW s1.t kC kD dT.dst l5:=by
    funext z
    by_cases aD:aG z (c0 (E.H s.f) dz)=true
    ·rw[if_pos aD,nr sO (a4 z aD)]
    ·have eW:aG z (c0 (E.H s.f) dz)=false:=by simpa using aD
     rw[if_neg aD]
     exact zU (cC z eW).symm
   rw[a6]at bL
   have QY:still E ev all a (wt s1 (cW s1.t kC kD dT.dst l5)) d1=true:=by
    rw[xm]at sN⊢
    intro k v hm
    rcases sN k v hm with h | ⟨o,aj,arL⟩
    ·exact .inl h
    ·obtain⟨iB,dA,ai,Da⟩:=aw k v hm
     obtain rfl:iB=o:=by rw[aj]at dA;exact(Option.some.inj dA).symm
     refine .inr ⟨iB,aj,?_⟩
     exact(zR (E:=E) (ev:=ev) (o:=iB) (s:=s1) (t2:=cW s1.t kC kD dT.dst l5) (by rw[uU.1];exact ai) (fun j au=>nr sO (sL (Da i (by simp) dT aA) (C1 au)))).trans arL
   have QZ:ha all dz (wt s (cW s.t kC kD dT.dst l5))=some true:=by rw[←zX];exact xq.guard
   exact⟨_,_,_,aq,Hw U QZ HD xn bL QY,fun z=>Iff.rfl⟩
  ·rw[QW]at xp;cases xp
def Fit (E:Env) (H:Hint) (all:Array Oper) (a i:Nat):Prop:=tW E.P H all a i=true
theorem Fit.held {H:Hint} {a i:Nat} (h:Fit E H all a i) {x y:Oper} (U:all[a]?=some x) (aA:all[i]?=some y) (ai:dj H x=true):lN (c0 H y) (looks all x)=true:=by
 unfold Fit tW at h
 rw[U,aA]at h
 simp only[Bool.and_eq_true,ai,Bool.not_true,Bool.false_or]at h
 exact h.2
theorem oj.step {i:Nat} {c:List Nat} {done d1:List (Nat×V)} {s1:ab} (h:oj E (E.H s.f) all done c) (al:c1 E ev all i s done=some (s1,d1)) (eU:∀x,all[i]?=some x→dj (E.H s.f) x=true→∀b∈c,∀ob,all[b]?=some ob→lN (c0 (E.H s.f) ob) (looks all x)=true):oj E (E.H s.f) all d1 c:=by
 obtain⟨o,aj,du⟩:=zT al
 rcases du with⟨D,C,v,gx,_,rfl,q⟩ | ⟨_,_,_,_,_,rfl⟩
 ·rcases q.kind with rfl | ⟨rfl,ai⟩
  ·exact h
  ·intro k bF hm
   rcases List.mem_append.1 hm with hm | hm
   ·obtain⟨rfl,rfl⟩:=Prod.mk.inj (List.mem_singleton.1 hm)
    exact⟨o,aj,ai,eU o aj ai⟩
   ·exact h k bF hm
 ·exact h
theorem xr {i:Nat} {done d1:List (Nat×V)} {s1:ab} (al:c1 E ev all i s done=some (s1,d1)):s1.f=s.f:=by
 obtain⟨o,aj,du⟩:=zT al
 rcases du with⟨D,C,v,gx,rfl,rfl,q⟩ | ⟨_,_,_,h,_,rfl⟩
 ·rfl
 ·exact(C3 h).1
def Db (H:Hint) (all:Array Oper) (a i:Nat):Prop:=∀x y,all[a]?=some x→all[i]?=some y→dj H x=true→lN (c0 H y) (looks all x)=true
theorem Fit.uV {H:Hint} {a i:Nat} (h:Fit E H all a i):Db H all a i:=fun _ _ U aA ai=>h.held U aA ai
theorem front {i:Nat} {post:List Nat}:∀(pre:List Nat) {s bb:ab} {done:List (Nat×V)},(∀a∈pre,(r2 E.P (E.H s.f) all a i||wy (E.H s.f) all a i)=true∧pS (E.H s.f) all a=true∧prec all all.size a i=false)→(pre++[i]).Pairwise (Db (E.H s.f) all)→oj E (E.H s.f) all done (pre++[i])→
 gE E ev all (pre++i::post) s done=some bb→gE E ev all (i::(pre++post)) s done=some bb:=by
 intro pre
 induction pre with
 | nil=>intro s bb done _ _ _ h;exact h
 | cons a pre ag=>
   intro s bb done ah arM bj h
   obtain⟨⟨s1,d1⟩,J,aa⟩:=Option.bind_eq_some_iff.1 h
   have f1:=xr J
   have ar2:=List.pairwise_cons.1 arM
   have Q0:oj E (E.H s.f) all d1 (pre++[i]):=oj.step (fun k v hm=>by
    obtain⟨o,ar,aP,bf⟩:=bj k v hm
    exact⟨o,ar,aP,fun b ad=>bf b (List.mem_cons_of_mem _ ad)⟩) J fun x U ai b ad ob cq=>ar2.1 b ad x ob U cq ai
   have ar:=ag (s:=s1) (by rw[f1];exact fun b ad=>ah b (List.mem_cons_of_mem _ ad)) (by rw[f1];exact ar2.2) (by rw[f1];exact Q0) aa
   obtain⟨⟨s2,d2⟩,aP,bf⟩:=Option.bind_eq_some_iff.1 ar
   obtain⟨c4,cu,cS⟩:=ah a List.mem_cons_self
   obtain⟨s3,d3,d4,aq,aF,aW⟩:=swap c4 cu cS (fun k v hm=>by
    obtain⟨o,b4,dh,cH⟩:=bj k v hm
    exact⟨o,b4,dh,fun b ad=>cH b (by
     rcases List.mem_cons.1 ad with rfl | ad
     ·exact List.mem_cons_self
     ·rw[List.mem_singleton.1 ad];exact List.mem_append_right _ (List.mem_singleton.2 rfl))⟩) J aP
   refine Option.bind_eq_some_iff.2 ⟨(s3,d3),aq,?_⟩
   refine Option.bind_eq_some_iff.2 ⟨(s2,d4),aF,?_⟩
   dsimp only
   rw[QL _ aW]
   exact bf
def uW (all:Array Oper) (listed:Array Bool):Prop:=∀j o,listed.getD j false=true→all[j]?=some o→∀e∈h2 o,listed.getD e false=true
theorem Dc {listed:Array Bool} (fm:uW all listed) {a:Nat}:∀(n i:Nat) (o:Oper),all[i]?=some o→(∀e∈h2 o,listed.getD e false=true)→prec all n a i=true→listed.getD a false=true:=by
 intro n
 induction n with
 | zero=>intro i o _ _ h;cases h
 | succ n ag=>
   intro i o aj he h
   unfold prec at h
   rw[aj]at h
   obtain⟨e,hm,U⟩:=List.any_eq_true.1 h
   have hle:=he e hm
   rw[Bool.or_eq_true]at U
   rcases U with U | U
   ·have:e=a:=by simpa using U
    rw[←this];exact hle
   ·cases n with
    | zero=>cases U
    | succ n=>
      have kz:=U
      unfold prec at kz
      split at kz
      ·rename_i iB dA
       exact ag e iB dA (fm e iB hle dA) U
      ·cases kz
theorem zY {o:Oper} {e:Edge} (he:e∈o.after) (ad:Region.binds .any e=true):e.on∈h2 o:=by
 unfold h2
 exact List.mem_map.2 ⟨e,List.mem_filter.2 ⟨Array.mem_toList_iff.2 he,ad⟩,rfl⟩
theorem HL {o:Oper} {n:Nat} (h:n∈h2 o):∃e∈o.after,Region.binds .any e=true∧e.on=n:=by
 unfold h2 at h
 obtain⟨e,he,rfl⟩:=List.mem_map.1 h
 obtain⟨J,aa⟩:=List.mem_filter.1 he
 exact⟨e,Array.mem_toList_iff.1 J,aa,rfl⟩
end Go.aB
namespace Go.aB
open Go
variable {E:Env} {G:bh} {s:ab} {a:Act} {w:World}
theorem bZ.Q1 {p:Nat→Nat→bd} {x:Value} (h:bZ G w p (.tup []) x):x=.tuple #[]:=by
 obtain⟨vs,U,ai,_⟩:=h
 have:vs=#[]:=by
  apply Array.eq_empty_of_size_eq_zero
  simpa using ai.symm
 rw[U,this]
theorem bZ.j5 {p:Nat→Nat→bd} {b:Bool} {x:Value} (h:bZ G w p (.bool b) x):x=.bool b:=by
 rw[uL (fun l e=>by cases e) (fun l e=>by cases e)]at h
 exact aH.j5 h
theorem Rel.skip (aI:Rel G s a w) (d:Option Nat):∃G',Rel G' (s.cV d (.tup [])) (a.put d undef) w∧Fr s.lv G w G' w:=by
 cases d with
 | none=>exact⟨G,aI,Fr.refl _ _ _⟩
 | some d=>
   by_cases aw:d<s.n
   ·obtain⟨G',J,aa,_⟩:=aI.put (v:=.tup []) (x:=undef) ⟨#[],rfl,rfl,fun i hi=>absurd hi (Nat.not_lt_zero _)⟩ d aw
    exact⟨G',J,aa⟩
   ·have he:a.put (some d) undef=a:=by
     show {a with tmps:=a.tmps.setIfInBounds d undef}=a
     rw[Array.setIfInBounds_eq_of_size_le (by rw[aI.size];omega)]
    rw[he]
    refine⟨G,⟨aI.size,aI.defers,fun t=>?_,fun l t ob aj=>aI.obj l t ob aj,fun l t g av=>aI.fC l t g av,aI.cZ,aI.aX⟩,Fr.refl _ _ _⟩
    show bZ G w (.h4 s.lv t) (ae s.t d (.tup []) t) _
    unfold ae
    by_cases aK:t=d
    ·rw[if_pos aK]
     have:a.tmps.getD t undef=undef:=by
      simp only[Array.getD_eq_getD_getElem?]
      rw[Array.getElem?_eq_none (by rw[aI.size];omega)]
      rfl
     rw[this]
     exact⟨#[],rfl,rfl,fun i hi=>absurd hi (Nat.not_lt_zero _)⟩
    ·rw[if_neg aK];exact aI.slot t
theorem Dd (aI:Rel G s a w) {all:Array Oper} {o:Oper} {j:Nat} {want:Bool} (av:o.guard=some (j,want)) {v:V} (arL:((all[j]?).bind (·.dst)).map s.t=some v):
 (∀b,v=.bool b→Region.wanted o (yielded all a.tmps)=(b==want))∧(v=.tup []→Region.wanted o (yielded all a.tmps)=false):=by
 obtain⟨t,aK,rfl⟩:=Option.map_eq_some_iff.1 arL
 unfold Region.wanted yielded
 rw[av]
 dsimp only
 rw[aK]
 have al:=aI.slot t
 refine⟨fun b ad=>?_,fun ad=>?_⟩
 ·rw[ad]at al
  have J:=al.j5
  have:a.tmps[t]?=some (.bool b):=by
   simp only[Array.getD_eq_getD_getElem?]at J
   cases U:a.tmps[t]? with
   | none=>rw[U]at J;cases J
   | some y=>rw[U]at J;simp at J;rw[J]
  simp only[Option.bind_some,this]
  cases b<;>cases want<;>rfl
 ·rw[ad]at al
  have J:=al.Q1
  simp only[Option.bind_some]
  simp only[Array.getD_eq_getD_getElem?]at J
  cases U:a.tmps[t]? with
  | none=>rfl
  | some y=>rw[U]at J;simp at J;rw[J];rfl
theorem HM {n:Nat} (a8:pq E n) (eh:mF E) {all:Array Oper} {o:Oper} {bb:ab} (h:stepG E n all o s=some bb) (aI:Rel G s a w) (cL:ia s) {K:Act→World→Prop} {Q:Exit→Act→World→Prop}
 (gH:∀dG w' G',Rel G' bb dG w'→bp s bb→Fr s.lv G w G' w'→K dG w'):if Region.wanted o (yielded all a.tmps)then o.wp E.P a w K Q∨(o.asks E.P a w∧LetsOut Q)else K (a.put o.dst undef) w:=by
 have go:∀{bb},np E n o s=some bb→(∀dG w' G',Rel G' bb dG w'→bp s bb→Fr s.lv G w G' w'→K dG w')→o.wp E.P a w K Q:=fun h gH=>asi a8 eh h aI cL fun x w' G' J aa ar=>gH _ w' G' J aa ar
 have skip:bb=s.cV o.dst (.tup [])→K (a.put o.dst undef) w:=by
  rintro rfl
  obtain⟨G',J,aa⟩:=aI.skip o.dst
  exact gH _ w G' J (.cV _ _ _) aa
 unfold stepG at h
 split at h
 ·rename_i av
  have:Region.wanted o (yielded all a.tmps)=true:=by unfold Region.wanted;rw[av]
  rw[if_pos this]
  exact .inl (go h gH)
 ·rename_i j want av
  split at h
  ·rename_i b ad
   have:=(Dd aI av ad).1 b rfl
   by_cases e:b=want
   ·rw[if_pos e]at h
    rw[if_pos (by rw[this,e];simp)]
    exact .inl (go h gH)
   ·rw[if_neg e]at h
    rw[if_neg (by rw[this];simp[e])]
    exact skip (Option.some.inj h).symm
  ·rename_i ad
   have:=(Dd aI av ad).2 rfl
   rw[if_neg (by rw[this];simp)]
   exact skip (Option.some.inj h).symm
  ·cases h
theorem Q2 {n:Nat} (a8:pq E n) (eh:mF E) {all:Array Oper} {Q:Exit→Act→World→Prop}:∀(m k:Nat) {G:bh} {s bb:ab} {a:Act} {w:World},k+m=all.size→sE E n all (all.toList.drop k) s=some bb→Rel G s a w→ia s→
 (∀dG w' G',Rel G' bb dG w'→bp s bb→Fr s.lv G w G' w'→Q .normal dG w')→wpOps E.P all Q (List.range' k m) a w:=by
 intro m
 induction m with
 | zero=>
   intro k G s bb a w ay h aI cL e5
   rw[List.drop_eq_nil_of_le (by simp;omega)]at h
   obtain rfl:=Option.some.inj h
   exact e5 a w G aI (.refl _) (Fr.refl _ _ _)
 | succ m ag=>
   intro k G s bb a w ay h aI cL e5
   have aL:k<all.toList.length:=by simp;omega
   rw[List.drop_eq_getElem_cons aL]at h
   obtain⟨s1,J,aa⟩:=Option.bind_eq_some_iff.1 h
   rw[List.range'_succ]
   unfold wpOps
   have aj:all[k]?=some all.toList[k]:=by
    rw[←Array.getElem?_toList,List.getElem?_eq_getElem aL]
   rw[aj]
   dsimp only
   refine HM a8 eh J aI cL fun aT e2 bl cd aN f1=>?_
   refine ag (k+1) (by omega) aa cd (aN.low cL) fun dG w' G' hy xt eP=>e5 dG w' G' hy (aN.trans xt) (f1.trans (aN.lv▸eP))
theorem k3.head {c:Code} {cb:List cJ} {k:List Item} (h:k3 (.code c::cb) k):∃bI,k=.code c::bI∧k3 cb bI:=by
 cases h with
 | code _ h=>exact⟨_,rfl,h⟩
theorem leaves {b:Frame} {fn:Func} {G':bh} {v:V} {s1:ab} (aI:Rel G s a w) (aJ:E.P.funcs[s.f]?=some fn) (qe:fn.results=s.r) (arL:oZ E.P s=some (v,s1)) (ad:b.fn=s.f) (ay:b.kind=.normal):
 ∃x G',(∀todo,(({b.at a todo with mode:=.returning}:Frame)).leaving E.P w (.returned x))∧hA s.lv G w s1.o v x w G':=by
 obtain⟨x,G',J,aa⟩:=Pq aI qe arL
 exact⟨x,G',fun todo=>⟨rfl,aI.defers,ay,fn,by show E.P.funcs[b.fn]?=_;rw[ad];exact aJ,J⟩,aa⟩
theorem bp.lM {s s1:ab} {v bF:V} (arL:lM s v=some (bF,s1)):bp s s1:=by
 unfold aB.lM at arL
 split at arL
 ·obtain⟨x,U,he⟩:=Option.map_eq_some_iff.1 arL
  obtain⟨rfl,rfl⟩:=Prod.mk.inj he
  exact .c2 _
 ·split at arL
  ·obtain⟨_,rfl⟩:=Prod.mk.inj (Option.some.inj arL);exact .refl _
  ·cases arL
theorem bp.m2:∀{l:List V} {s s1:ab} {bc:List V},m2 s l=some (bc,s1)→bp s s1:=by
 intro l
 induction l with
 | nil=>intro s s1 bc arL;obtain⟨_,rfl⟩:=Prod.mk.inj (Option.some.inj arL);exact .refl _
 | cons c l ag=>
   intro s s1 bc arL
   unfold aB.m2 at arL
   split at arL
   ·rename_i J
    split at arL
    ·rename_i aa
     obtain⟨_,rfl⟩:=Prod.mk.inj (Option.some.inj arL)
     exact(bp.lM J).trans (ag aa)
    ·cases arL
   ·cases arL
theorem bp.jW {s s1:ab} {v bF:V} (arL:jW s v=some (bF,s1)):bp s s1:=by
 unfold aB.jW at arL
 split at arL
 ·obtain⟨⟨bc,s2⟩,aI,he⟩:=Option.map_eq_some_iff.1 arL
  obtain⟨_,rfl⟩:=Prod.mk.inj he
  exact .m2 aI
 ·exact .lM arL
theorem HN {v:V} {s1:ab} (arL:oZ E.P s=some (v,s1)) (h:ia s):sD s1.o:=by
 have one:∀{r v s1},tU E.P s r=some (v,s1)→bp s s1:=by
  intro r v s1 arL
  unfold tU at arL
  split at arL
  ·split at arL
   ·split at arL
    ·split at arL
     ·split at arL
      ·obtain⟨_,rfl⟩:=Prod.mk.inj (Option.some.inj arL);exact .refl _
      ·cases arL
     ·cases arL
    ·cases arL
   ·exact bp.jW arL
  ·split at arL
   ·rename_i ai
    split at arL
    ·rename_i hw
     obtain rfl:=Option.some.inj arL
     exact(bp.load ai).trans (.jW hw)
    ·split at arL
     ·rename_i uN
      obtain⟨uJ,_,he⟩:=Option.map_eq_some_iff.1 arL
      obtain⟨_,rfl⟩:=Prod.mk.inj he
      exact bp.load uN
     ·cases arL
   ·cases arL
 have many:∀(rs:List ResultVar) {s s1:ab} {vs},rZ E.P s rs=some (vs,s1)→bp s s1:=by
  intro rs
  induction rs with
  | nil=>intro s s1 vs h;obtain⟨_,rfl⟩:=Prod.mk.inj (Option.some.inj h);exact .refl _
  | cons r rs ag=>
    intro s s1 vs h
    unfold rZ at h
    split at h
    ·rename_i v s2 J
     split at h
     ·rename_i aa
      obtain⟨_,rfl⟩:=Prod.mk.inj (Option.some.inj h)
      refine bp.trans ?_ (ag aa)
      unfold wo at J
      split at J
      ·exact .tree J
      ·split at J
       ·rename_i ai
        split at J
        ·obtain⟨_,rfl⟩:=Prod.mk.inj (Option.some.inj J);exact .load ai
        ·cases J
       ·cases J
     ·cases h
    ·cases h
 have us:∀(rs:List ResultVar) {s s1:ab} {vs},pP s rs=some (vs,s1)→bp s s1:=by
  intro rs
  induction rs with
  | nil=>intro s s1 vs h;obtain⟨_,rfl⟩:=Prod.mk.inj (Option.some.inj h);exact .refl _
  | cons r rs ag=>
    intro s s1 vs h
    cases r with
    | cell c t=>cases h
    | tmp t=>
      unfold pP at h
      split at h
      ·rename_i J
       split at h
       ·rename_i aa
        obtain⟨_,rfl⟩:=Prod.mk.inj (Option.some.inj h)
        exact((bp.put _ _ _).trans (bp.jW J)).trans (ag aa)
       ·cases h
      ·cases h
 unfold oZ at arL
 split at arL
 ·exact((one arL).low h).outer
 ·obtain⟨y,aA,he⟩:=Option.map_eq_some_iff.1 arL
  obtain⟨rfl,rfl⟩:=Prod.mk.inj he
  unfold yX at aA
  split at aA
  ·rename_i J
   obtain rfl:=Option.some.inj aA
   exact((many _ J).low h).outer
  ·unfold wq at aA
   split at aA
   ·split at aA
    ·rename_i ai
     split at aA
     ·rename_i hw
      split at aA
      ·rename_i hu
       obtain rfl:=Option.some.inj aA
       exact(((bp.load ai).trans (.jW hw)).trans (us _ hu)).low h |>.outer
      ·cases aA
     ·cases aA
    ·cases aA
   ·exact((us _ aA).low h).outer
end Go.aB
