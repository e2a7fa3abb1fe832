/- Lists owned deep: made, built out of owned parts, put to one another's end. Lists of lists as variables of their cells; loads that make an object of what they read. The steps put together. -/
import Derived.Test.YtlecddobnippmaaGreatEvF
import Derived.Test.YtlecddobnippmaaGreatEvG
set_option linter.unusedVariables false
set_option linter.unusedSimpArgs false
namespace Go.aB
open Go
variable {P:Program} {G:bh} {s:ab} {a:Act} {w:World} {o:Oper}
variable {d:Option Nat} {ty:TypeId} {pos:String} {af:Array Edge} {gd:Option (Nat×Bool)}
theorem cX.one {S β} {bs:List Nat} {l:List V} {xs:List Value} (h:cX S β w bs l xs):∀u∈xs,u.oneCell'=true:=by
 induction h with
 | nil=>intro u hu;cases hu
 | leaf arM h k ag=>
   intro u hu
   rcases List.mem_cons.1 hu with rfl | hu
   ·exact(uv h (by rintro rfl;cases arM) (by rintro l rfl;cases arM)).2
   ·exact ag u hu
 | emp k ag=>
   intro u hu
   rcases List.mem_cons.1 hu with rfl | hu
   ·rfl
   ·exact ag u hu
 | eZ av ah hm al a8 ay k m5 iN=>
   intro u hu
   rcases List.mem_cons.1 hu with rfl | hu
   ·rfl
   ·exact iN u hu
def zu:bd→bd
 | .rs 0 0=>.rs 1 0
 | p=>p
theorem OE {x y:Operand} {t bY:TypeId} {sz:Nat} {m:List V} {v:V} (h:Rel G s a w) (aA:s.all P bY y=.uq sz m) (arL:yQ P t bY ((s.drop y).all P t x) sz m=some v):
 b5 P ⟨d,.call {callee:=.builtin .append,args:=#[x,y],argTypes:=#[t,bY]},ty,pos,af,gd⟩ G s a w v ((s.drop y).drop x):=by
 obtain⟨OF,bn,gl,iy,n7,NP,y5⟩:=h.all P bY y
 rw[aA]at gl
 obtain⟨cd,dS⟩:=bn.pc zu (fun p arM=>by
  unfold zu
  split
  ·exact absurd rfl (arM _ _)
  ·rfl)
 have OG:dm (OF.bP zu) w (.rs 1 0) sz m (a.eval y):=br.bP (v:=.uq sz m) (p':=.rs 1 0) gl zu rfl
 obtain⟨bl,J,dK,kc,sw,Gz,OH⟩:=cd.all P t x
 have OI:dm bl w (.rs 1 0) sz m (a.eval y):=br.mono (v:=.uq sz m) OG ⟨fun g j c e=>by rw[Gz];exact e,fun l t g e=>by rw[OH];exact e⟩ fun g av=>⟨rfl,fun j=>by rw[Gz],sw _ _ _ av⟩
 have cG:(s.drop y).lv=s.lv:=nc y
 have l2:((s.drop y).drop x).lv=s.lv:=(nc x).trans cG
 obtain⟨A,cap,OJ,news,nh,cu,cS,hc,GA,OK,h9,OL,_⟩:=OI.cells P
 have core:∀{l:List V},gY P t=true→sz=c3 P t→hp P bY=true→(l.length+m.length)*P.bytesOf (elemOf P t)≤140737488355328→dm bl w (.rs 0 0) sz l (a.eval x)→
  b5 P ⟨d,.call {callee:=.builtin .append,args:=#[x,y],argTypes:=#[t,bY]},ty,pos,af,gd⟩ G s a w (.uq sz (l++m)) ((s.drop y).drop x):=by
  intro l fl jD j7 p2 bO
  obtain⟨e,he,jF⟩:=jC (by simp only[gY,Bool.and_eq_true]at fl;exact fl.1.1.1)
  rw[jF]at p2
  obtain⟨cc,pZ,_⟩:=jC j7
  obtain⟨dz,w',G',aR,a7,cj,da⟩:=Ck (ty:=ty) (q:=.rs 1 0) J fl jD he pZ (fun k e=>by cases e) bO (by rw[OJ];rfl) cu cS GA OK h9 OL ⟨0,0,rfl⟩ hc GA.one p2
  rw[l2]at da
  rw[cG]at kc dS
  refine⟨dz,w',G',nT ?_,a7,cj,((iy.trans dS).trans kc).trans da⟩
  simp only[builtin,List.map_toArray,List.map_cons,List.map_nil,Sem.run_bind,aR,Result.andThen_ok,Sem.run_pure]
 unfold yQ at arL
 split at arL
 ·rename_i Cv l U
  split at arL
  ·rename_i ah
   obtain⟨aq,aF,aW,rfl,ek⟩:=ah
   obtain rfl:=Option.some.inj arL
   rw[U]at dK
   exact core aq aF aW ek dK
  ·cases arL
 ·rename_i Cv U
  split at arL
  ·rename_i ah
   obtain⟨aq,aF,aW,rfl,ek⟩:=ah
   obtain rfl:=Option.some.inj arL
   rw[U]at dK
   exact core (l:=[]) aq aF aW (by simpa using ek) (dm.of_nil dK)
  ·cases arL
 ·cases arL
theorem OM {t e:TypeId} {dd:Nat} {x y:Operand} {z:List V} {lW nZ:IntKind} {n m:Int} (h:Rel G s a w) (hu:P.underlying t=some (.slice e)) (U:s.aM P 0 x=.int lW n) (aA:s.aM P 0 y=.int nZ m) (aD:zero P e=some z) (hlen:z.length=az P e) (aC:az P e≠0) (df:(eB P t).flat.length=az P e)
 (eO:P.bytesOf e≠0) (bn:0≤n) (arY:n≤m) (ad:m*P.bytesOf e≤140737488355328) (aw:s.b dd=none) (ON:n=m):
 b5 P ⟨d,.makeSlice t x y,ty,pos,af,gd⟩ G s a w (.hn s.lv dd n.toNat) {s with b:=ae s.b dd (some (.lJ (az P e) (List.replicate n.toNat (eB P t))))}:=by
 obtain⟨i,cY,J,aa,ar,aP,bf⟩:=B3 (G:=G) hu aD hlen aC df n.toNat m.toNat (by omega)
 subst ON
 have zv:Laid G (az P e) (List.replicate n.toNat (eB P t)) (madeCells cY.cells (n.toNat*az P e)).toList.toArray:=by simpa using aP
 have mB:=zv.uG (w:=w) (by rw[Array.length_toList,bf,List.length_replicate])
 obtain⟨aq,aF,aW⟩:=h.ur aw (.cells (madeCells cY.cells (n.toNat*az P e)) e) (.lJ (az P e) (List.replicate n.toNat (eB P t))) (fun w' cR hle al a8=>⟨_,e,[],by rw[cR];exact heap_alloc_new _ _,by rw[bf,List.length_replicate],fun x U=>(aP.2.1 x U).1,a8,List.nodup_nil,(fun b ad=>by cases ad),mB.mono (fun v x _ e=>hle.dg e) (fun b ad=>by cases ad)⟩)
 have aR:=h.aM P 0 x
 have a7:=h.aM P 0 y
 rw[U]at aR
 rw[aA]at a7
 refine⟨.slice (some ⟨w.heap.size,0,none⟩) n.toNat n.toNat,_,_,?_,aq,bZ.fT (aH.hn _ _ _ _ aW),aF⟩
 simp only[execOp]
 refine eN ?_
 rw[aR.fD,a7.fD,B4 hu J aa lW nZ bn arY eO ad,ar]
theorem OO {e:TypeId} (aD:az P e≠0):∀{xs:List Operand} {G:bh} {s s1:ab} {vs:List V} {k:Nat},Rel G s a w→h0 P e s xs=some (vs,s1)→vs.all (fun v=>v.flat.length==az P e&&v.flat.all nO)=true→
 ∃bl,Rel bl s1 a w∧Fr s.lv G w bl w∧s1.lv=s.lv∧bl.S=G.S∧bl.β=G.β∧(∀g j,j<k→G.aV g=some (.rs 1 j)→bl.aV g=some (.rs 1 j))∧(∀x∈xs.map a.eval,x.cells.size=az P e)∧vs.length=xs.length∧
  ((xs.map a.eval).flatMap fun v=>v.cells.toList).length=(vs.map V.flat).flatten.length∧
  ∀j,j<(vs.map V.flat).flatten.length→br bl w (.rs 1 (k+j)) ((vs.map V.flat).flatten.getD j .undef) (((xs.map a.eval).flatMap fun v=>v.cells.toList).getD j Go.undef):=by
 intro xs
 induction xs with
 | nil=>
   intro G s s1 vs k h arL _
   obtain⟨rfl,rfl⟩:=Prod.mk.inj (Option.some.inj arL)
   exact⟨G,h,Fr.refl _ _ _,rfl,rfl,rfl,fun _ _ _ e=>e,(fun x U=>by cases U),rfl,rfl,fun j au=>absurd au (Nat.not_lt_zero _)⟩
 | cons x xs ag=>
   intro G s s1 vs k h arL aJ
   have so:s.all P e x≠.undef∧(∀l,s.all P e x≠.tup l)∧∃kA,h0 P e (s.drop x) xs=some (kA,s1)∧vs=(s.all P e x).hand::kA:=by
    unfold h0 at arL
    split at arL
    ·cases arL
    ·cases arL
    ·rename_i dh cH
     refine⟨fun e=>cH e,fun l e=>dh l e,?_⟩
     split at arL
     ·rename_i kA s2 gk
      obtain⟨rfl,rfl⟩:=Prod.mk.inj (Option.some.inj arL)
      exact⟨kA,gk,rfl⟩
     ·cases arL
   obtain⟨hu,aK,kA,aI,rfl⟩:=so
   rw[List.all_cons,Bool.and_eq_true,Bool.and_eq_true,beq_iff_eq]at aJ
   obtain⟨⟨f1,f2⟩,f3⟩:=aJ
   have uB:=F9 f2
   have Nq:(s.all P e x).flat.length=az P e:=by rw[uB,List.length_map]at f1;exact f1
   obtain⟨bl,J,aa,ar,aP,bf,b4⟩:=h.all P e x
   obtain⟨bt,bq⟩:=(aa.qU aK).cells hu aK
   obtain⟨cd,dS⟩:=J.pc (zm k) (fun p arM=>by cases p<;>first | rfl | exact absurd rfl (arM _ _))
   obtain⟨bN,aq,aF,aW,ck,ek,hO,p6,OP,zw,OQ⟩:=ag (k:=k+az P e) cd aI f3
   have ct:(a.eval x).cells.size=az P e:=by omega
   have cG:(s.drop x).lv=s.lv:=nc x
   rw[cG]at dS aF
   refine⟨bN,aq,(ar.trans dS).trans aF,aW.trans cG,ck.trans bf,ek.trans b4,fun g j au av=>hO g j (by omega) ?_,fun z aD=>?_,by simp[OP],?_,fun j au=>?_⟩
   ·rw[dw (aP _ _ _ av)];rfl
   ·rw[List.map_cons]at aD
    rcases List.mem_cons.1 aD with rfl | aD
    ·exact ct
    ·exact p6 z aD
   ·rw[List.map_cons,List.flatMap_cons,List.length_append,zw,List.map_cons,List.flatten_cons,List.length_append,Array.length_toList,f1,ct]
   ·rw[List.map_cons,List.flatten_cons,List.length_append,f1]at au
    rw[List.map_cons,List.flatten_cons,List.map_cons,List.flatMap_cons]
    by_cases aL:j<az P e
    ·have aR:((s.all P e x).hand.flat++(kA.map V.flat).flatten).getD j .undef=(s.all P e x).hand.flat.getD j .undef:=by
      simp only[List.getD_eq_getElem?_getD]
      rw[List.getElem?_append_left (by omega)]
     have a7:((a.eval x).cells.toList++((xs.map a.eval).flatMap fun v=>v.cells.toList)).getD j Go.undef=(a.eval x).cells.getD j Go.undef:=by
      simp only[List.getD_eq_getElem?_getD,Array.getD_eq_getD_getElem?]
      rw[List.getElem?_append_left (by simp;omega)]
      simp
     rw[aR,a7,uB,Ga]
     have cH:=F8 ((bq j (by omega)).bP (zm k) (p':=.rs 1 (k+j)) rfl)
     refine cH.mono ⟨fun g i c e=>by rw[ck];exact e,fun l t g e=>by rw[ek];exact e⟩ fun g av=>⟨rfl,fun i=>by rw[ck],hO g _ (by omega) av⟩
    ·have aR:((s.all P e x).hand.flat++(kA.map V.flat).flatten).getD j .undef=(kA.map V.flat).flatten.getD (j-az P e) .undef:=by
      simp only[List.getD_eq_getElem?_getD]
      rw[List.getElem?_append_right (by omega),f1]
     have a7:((a.eval x).cells.toList++((xs.map a.eval).flatMap fun v=>v.cells.toList)).getD j Go.undef=((xs.map a.eval).flatMap fun v=>v.cells.toList).getD (j-az P e) Go.undef:=by
      simp only[List.getD_eq_getElem?_getD]
      rw[List.getElem?_append_right (by simp;omega)]
      simp[ct]
     rw[aR,a7,show k+j=k+az P e+(j-az P e) by omega]
     exact OQ _ (by omega)
def Cw:bd→bd
 | .rs 1 _=>.rs 0 0
 | p=>p
theorem OR {t e:TypeId} {n:Nat} {ps:Array (Nat×Operand)} {vs z:List V} {s1:ab} (h:Rel G s a w) (hu:P.underlying t=some (.slice e)) (aD:az P e≠0) (hzero:zero P e=some z) (aj:m0 0 ps.toList=true) (aC:ps.size=n) (ux:n*az P e≤16777216)
 (aK:h0 P e s (ps.toList.map (·.2))=some (vs,s1)) (aJ:vs.all (fun v=>v.flat.length==az P e&&v.flat.all nO)=true):b5 P ⟨d,.buildSlice t n ps,ty,pos,af,gd⟩ G s a w (.uq (az P e) vs) s1:=by
 obtain⟨bl,J,aa,ar,aP,bf,_,dh,cH,gk,uK⟩:=OO (k:=0) aD h aK aJ
 have my:(ps.toList.map (·.2)).map a.eval=ps.toList.map fun p=>a.eval p.2:=by rw[List.map_map];rfl
 rw[my]at dh gk uK
 have p1:(vs.map V.flat).flatten.all nO=true:=by
  rw[List.all_eq_true]
  intro u hu
  obtain⟨y,aA,hu⟩:=List.mem_flatten.1 hu
  obtain⟨v,arL,rfl⟩:=List.mem_map.1 aA
  have:=List.all_eq_true.1 aJ v arL
  rw[Bool.and_eq_true]at this
  exact List.all_eq_true.1 this.2 u hu
 have al:∀x∈vs,x.flat.length=az P e:=fun x U=>by
  have:=List.all_eq_true.1 aJ x U
  rw[Bool.and_eq_true,beq_iff_eq]at this
  exact this.1
 obtain⟨bs,bU,cv,dn⟩:=cX.F6 (p:=bd.rs 1) (fun i j e=>by injection e) (k:=0) gk.symm p1 uK
 obtain⟨cd,dS⟩:=J.pc Cw (fun p arM=>by
  unfold Cw
  split
  ·exact absurd rfl (arM _ _)
  ·rfl)
 have hlen:vs.length=n:=by rw[cH,List.length_map,Array.length_toList,aC]
 obtain⟨bt,bq,cN,_⟩:=cd.BW 0 (((ps.toList.map fun p=>a.eval p.2).flatMap fun v=>v.cells.toList).toArray) e (.rs 0 0)
 have Cx:∀b∈bs,(bl.bP Cw).aV b=some (.rs 0 0):=fun b ad=>by
  obtain⟨j,_,e⟩:=cv b ad
  rw[dw e];rfl
 have aY:∀b∈bs,b≠w.heap.size:=fun b ad=>Nat.ne_of_lt (cd.aX _ _ (Cx b ad))
 rw[ar]at cN dS
 refine⟨.slice (some ⟨w.heap.size,0,none⟩) n n,_,_,?_,bt,?_,(aa.trans dS).trans cN⟩
 ·simp only[execOp]
  exact eN (B0 hu aD hzero aj aC ux dh w)
 ·rw[←hlen]
  refine dm.mk (bs:=bs) (List.nodup_cons.2 ⟨fun ad=>aY _ ad rfl,bU⟩) (fun b ad=>?_) (heap_alloc_new _ _) ?_ (Nat.le_refl _) al (fun j=>?_) ?_
  ·rcases List.mem_cons.1 ad with rfl | ad
   ·show(if w.heap.size=w.heap.size then _ else _)=_
    rw[if_pos rfl]
   ·show(if b=w.heap.size then _ else _)=_
    rw[if_neg (aY b ad)]
    exact Cx b ad
  ·rw[List.size_toArray,gk,o1 al]
  ·show(if w.heap.size=w.heap.size then(if j<0 then _ else _)else _)=_
   rw[if_pos rfl,if_neg (by omega)]
  ·have aR:(((ps.toList.map fun p=>a.eval p.2).flatMap fun v=>v.cells.toList).toArray.toList.take (vs.length*az P e))=(ps.toList.map fun p=>a.eval p.2).flatMap fun v=>v.cells.toList:=by
    rw[List.toList_toArray,List.take_of_length_le (by rw[gk,o1 al];exact Nat.le_refl _)]
   rw[aR]
   refine dn.mono (fun v x _ e=>e.mono bq.S bq.β) fun b ad=>⟨uo _ _ (cd.aX _ _ (Cx b ad)),fun j=>?_⟩
   show(if b=w.heap.size then _ else _)=_
   rw[if_neg (aY b ad)]
   rfl
end Go.aB
namespace Go.aB
open Go
variable {P:Program} {G:bh} {s:ab} {a:Act} {w:World} {o:Oper}
variable {d:Option Nat} {ty:TypeId} {pos:String} {af:Array Edge} {gd:Option (Nat×Bool)}
theorem cX.parts {S β} {w:World} {bs:List Nat} {l:List V} {xs:List Value} (h:cX S β w bs l xs):bs.Nodup→∃f:Nat→Nat,∀i,i<l.length→∃bi,bi.Nodup∧(∀b∈bi,b∈bs∧f b=i)∧cX S β w bi [l.getD i .undef] [xs.getD i undef]:=by
 induction h with
 | nil=>intro _;exact⟨fun _=>0,fun i hi=>absurd hi (Nat.not_lt_zero _)⟩
 | leaf arM h k ag=>
   intro aC
   obtain⟨f,aJ⟩:=ag aC
   refine⟨fun b=>f b+1,fun i hi=>?_⟩
   cases i with
   | zero=>exact⟨[],List.nodup_nil,(fun b ad=>by cases ad),.leaf arM h .nil⟩
   | succ i=>
     obtain⟨bi,J,aa,ar⟩:=aJ i (by simpa using hi)
     exact⟨bi,J,fun b ad=>⟨(aa b ad).1,by show f b+1=i+1;rw[(aa b ad).2]⟩,ar⟩
 | emp k ag=>
   intro aC
   obtain⟨f,aJ⟩:=ag aC
   refine⟨fun b=>f b+1,fun i hi=>?_⟩
   cases i with
   | zero=>exact⟨[],List.nodup_nil,(fun b ad=>by cases ad),.emp .nil⟩
   | succ i=>
     obtain⟨bi,J,aa,ar⟩:=aJ i (by simpa using hi)
     exact⟨bi,J,fun b ad=>⟨(aa b ad).1,by show f b+1=i+1;rw[(aa b ad).2]⟩,ar⟩
 | @eZ bs jj sz m g cs ty cap l xs av ah hm al a8 ay k m5 iN=>
   intro aC
   rw[←List.cons_append,List.nodup_append]at aC
   obtain⟨fk,hx,hN⟩:=aC
   obtain⟨f,aJ⟩:=iN hx
   refine⟨fun b=>if b∈g::bs then 0 else f b+1,fun i hi=>?_⟩
   cases i with
   | zero=>
     refine⟨g::(bs++[]),by rw[List.append_nil];exact fk,fun b ad=>?_,.eZ av ah hm al a8 ay .nil⟩
     rw[List.append_nil]at ad
     exact⟨by rw[←List.cons_append];exact List.mem_append_left _ ad,if_pos ad⟩
   | succ i=>
     obtain⟨bi,J,aa,ar⟩:=aJ i (by simpa using hi)
     refine⟨bi,J,fun b ad=>?_,ar⟩
     obtain⟨aq,aF⟩:=aa b ad
     refine⟨by rw[←List.cons_append];exact List.mem_append_right _ aq,?_⟩
     show(if b∈g::bs then 0 else f b+1)=i+1
     rw[if_neg (fun e=>hN b e b aq rfl),aF]
theorem Rel.OS (h:Rel G s a w) {c j:Nat} {l:List V} {X:Value} {dd:Nat} (bO:dm G w (.rs c j) 1 l X) (aY:l≠[]) (aw:s.b dd=none):
 ∃G',Rel G' {s with b:=ae s.b dd (some (.box (l.map V.flat).flatten))} a w∧aH G'.S G'.β (.ho s.lv dd l.length) X∧Fr s.lv G w G' w∧ch G G'∧(∀k q,q≠.rs c j→G.aV k=some q→G'.aV k=some q)∧G'.S=G.S:=by
 obtain⟨a0,cap,rfl,⟨aC,_⟩ | ⟨g,cs,ez,bs,rfl,aC,nd,av,en,jk,n9,a8,ay⟩⟩:=bO.inv
 ·exact absurd aC aY
 have bA:=nd g (List.mem_cons_self ..)
 have n8:g∉bs:=(List.nodup_cons.1 aC).1
 obtain⟨f,aJ⟩:=ay.parts (List.nodup_cons.1 aC).2
 have df:(l.map V.flat).flatten.length=l.length:=by rw[o1 n9,Nat.mul_one]
 have dk:=wL h (lv:=s.lv) (t:=dd) (by rw[kX];exact aw)
 let G':bh:={S:=G.S,β:=fun l u=>if l=s.lv∧u=dd then some g else G.β l u,aV:=fun k=>if k=g then some (.ob s.lv dd)else if k∈bs then some (.ba s.lv dd (f k))else G.aV k}
 have hle:ch G G':=⟨fun _ _ _ ah=>ah,fun l u g' bT=>by
  show(if l=s.lv∧u=dd then _ else _)=_
  rw[if_neg (by rintro⟨rfl,rfl⟩;rw[dk]at bT;cases bT)];exact bT⟩
 have arU:∀k q,q≠.rs c j→G.aV k=some q→G'.aV k=some q:=by
  intro k q aE e4
  show(if k=g then _ else if k∈bs then _ else _)=_
  rw[if_neg (by rintro rfl;rw[bA]at e4;exact aE (Option.some.inj e4).symm),if_neg (fun e=>by rw[nd k (List.mem_cons_of_mem _ e)]at e4;exact aE (Option.some.inj e4).symm)]
  exact e4
 refine⟨G',⟨h.size,h.defers,fun t=>(h.slot t).mono hle fun bJ zd k ay=>⟨rfl,fun _=>rfl,arU k _ (fun e=>by cases e) ay⟩,fun lv t eV cq=>?_,fun lv t g' bT=>?_,h.cZ,fun g' q aE=>?_⟩,?_,⟨rfl,rfl,rfl,Nat.le_refl _,fun k ay hm=>⟨rfl,?_,fun _=>rfl⟩,fun _ _ _ e=>e,fun bc bY hJ=>?_⟩,hle,arU,rfl⟩
 ·rw[nX]at cq
  split at cq
  ·rename_i he
   obtain⟨rfl,rfl⟩:=he
   obtain rfl:=Option.some.inj cq
   refine⟨g,?_,?_,cs,ez,av,by rw[df,en,Nat.mul_one];exact jk,a8,fun i hi=>?_⟩
   ·show(if _∧_ then _ else _)=_;rw[if_pos ⟨rfl,rfl⟩]
   ·show(if _=_ then _ else _)=_;rw[if_pos rfl]
   ·obtain⟨bi,bU,cv,dn⟩:=aJ i hi
    have ex:(cs.toList.take (l.length*1)).getD i undef=cs.getD i undef:=by
     rw[df]at hi
     simp only[List.getD_eq_getElem?_getD,List.getElem?_take,Nat.mul_one,if_pos hi,Array.getD_eq_getD_getElem?]
     simp
    rw[ex]at dn
    have OT:∀b∈bi,G'.aV b=some (.ba s.lv t i):=fun b ad=>by
     obtain⟨aq,aF⟩:=cv b ad
     show(if b=g then _ else if b∈bs then _ else _)=_
     rw[if_neg (by rintro rfl;exact n8 aq),if_pos aq,aF]
    have ed:cX G'.S G'.β w bi [(l.map V.flat).flatten.getD i .undef] [cs.getD i undef]:=dn.mono (fun v x _ a6=>hle.dg a6) fun _ _=>⟨rfl,fun _=>rfl⟩
    generalize (l.map V.flat).flatten.getD i .undef=v at ed⊢
    generalize cs.getD i undef=ue at ed⊢
    by_cases aE:∃sz m,v=.uq sz m
    ·obtain⟨sz,m,rfl⟩:=aE
     exact⟨bi,bU,OT,ed⟩
    ·cases ed with
     | leaf arM a6 k=>exact br.lQ a6 fun sz m e=>by subst e;cases arM
     | emp k=>exact absurd ⟨_,_,rfl⟩ aE
     | eZ _ _ _ _ _ _ k=>exact absurd ⟨_,_,rfl⟩ aE
  ·obtain⟨g',J,aa,ar⟩:=h.obj lv t eV cq
   exact⟨g',hle.β _ _ _ J,arU _ _ (fun e=>by cases e) aa,ar.mono hle ⟨rfl,fun _=>rfl⟩ fun i k ay=>⟨rfl,fun _=>rfl,arU _ _ (fun e=>by cases e) ay⟩⟩
 ·rw[nX]
  split
  ·exact⟨_,rfl⟩
  ·rename_i su
   have kb:(if lv=s.lv∧t=dd then some g else G.β lv t)=some g':=bT
   rw[if_neg su]at kb
   exact h.fC _ _ _ kb
 ·have e7:(if g'=g then some (bd.ob s.lv dd)else if g'∈bs then some (bd.ba s.lv dd (f g'))else G.aV g')=some q:=aE
  split at e7
  ·rename_i e;subst e;exact h.aX _ _ bA
  ·split at e7
   ·rename_i e;exact h.aX _ _ (nd g' (List.mem_cons_of_mem _ e))
   ·exact h.aX _ _ e7
 ·refine aH.ho _ _ _ g cap ?_ jk
  show(if _∧_ then _ else _)=_;rw[if_pos ⟨rfl,rfl⟩]
 ·show(if k=g then _ else if k∈bs then _ else _)=_
  rw[if_neg (by rintro rfl;exact hm _ bA trivial),if_neg (fun e=>hm _ (nd k (List.mem_cons_of_mem _ e)) trivial)]
 ·show(if bc=s.lv∧bY=dd then _ else _)=_
  rw[if_neg (by omega)]
theorem OU {dd:Nat} {v bF:V} {s1:ab} (arL:kv s dd v=some (bF,s1)):hz s s1:=by
 unfold kv at arL
 split at arL
 ·split at arL
  ·obtain⟨_,rfl⟩:=Prod.mk.inj (Option.some.inj arL);exact .refl _
  ·split at arL
   ·split at arL
    ·rename_i aw
     obtain⟨_,rfl⟩:=Prod.mk.inj (Option.some.inj arL);exact .new aw
    ·cases arL
   ·cases arL
 ·obtain⟨_,rfl⟩:=Prod.mk.inj (Option.some.inj arL);exact .refl _
theorem OV (h:Rel G s a w) {j dd:Nat} {v bF:V} {x:Value} {s1:ab} (bO:br G w (.rs 0 j) v x) (arL:kv s dd v=some (bF,s1)):
 ∃G',Rel G' s1 a w∧br G' w (.rs 0 j) bF x∧Fr s.lv G w G' w∧ch G G'∧(∀k q,q≠.rs 0 j→G.aV k=some q→G'.aV k=some q)∧G'.S=G.S:=by
 unfold kv at arL
 split at arL
 ·rename_i sz y l
  split at arL
  ·obtain⟨rfl,rfl⟩:=Prod.mk.inj (Option.some.inj arL)
   exact⟨G,h,bO,Fr.refl _ _ _,ch.refl _,fun _ _ _ e=>e,rfl⟩
  ·split at arL
   ·rename_i ah
    obtain⟨rfl,_⟩:=ah
    split at arL
    ·rename_i aw
     obtain⟨rfl,rfl⟩:=Prod.mk.inj (Option.some.inj arL)
     obtain⟨G',J,aa,ar,aP,bf,b4⟩:=h.OS (l:=y::l) bO (by simp) aw
     exact⟨G',J,br.lQ aa (fun _ _ e=>by cases e),ar,aP,bf,b4⟩
    ·cases arL
   ·cases arL
 ·obtain⟨rfl,rfl⟩:=Prod.mk.inj (Option.some.inj arL)
  exact⟨G,h,bO,Fr.refl _ _ _,ch.refl _,fun _ _ _ e=>e,rfl⟩
theorem GB:∀{l:List V} {s:ab} {dd:Nat} {bc:List V} {s1:ab},hs s dd l=some (bc,s1)→hz s s1:=by
 intro l
 induction l with
 | nil=>intro s dd bc s1 arL;obtain⟨_,rfl⟩:=Prod.mk.inj (Option.some.inj arL);exact .refl _
 | cons c l ag=>
   intro s dd bc s1 arL
   unfold hs at arL
   split at arL
   ·rename_i gG s2 J
    obtain⟨⟨v,s3⟩,aI,he⟩:=Option.map_eq_some_iff.1 arL
    obtain⟨_,rfl⟩:=Prod.mk.inj he
    exact(ag J).trans (OU aI)
   ·cases arL
theorem OW {X:Nat→Value}:∀{l:List V} {G:bh} {s:ab} {k dd:Nat} {bc:List V} {s1:ab},Rel G s a w→(∀j,j<l.length→br G w (.rs 0 (k+j)) (l.getD j .undef) (X (k+j)))→hs s dd l=some (bc,s1)→
 ∃G',Rel G' s1 a w∧bc.length=l.length∧(∀j,j<l.length→br G' w (.rs 0 (k+j)) (bc.getD j .undef) (X (k+j)))∧Fr s.lv G w G' w∧ch G G'∧(∀g q,(∀j,k≤j→q≠.rs 0 j)→G.aV g=some q→G'.aV g=some q)∧G'.S=G.S:=by
 intro l
 induction l with
 | nil=>
   intro G s k dd bc s1 h bO arL
   obtain⟨rfl,rfl⟩:=Prod.mk.inj (Option.some.inj arL)
   exact⟨G,h,rfl,fun j au=>absurd au (Nat.not_lt_zero _),Fr.refl _ _ _,ch.refl _,fun _ _ _ e=>e,rfl⟩
 | cons c l ag=>
   intro G s k dd bc s1 h bO arL
   unfold hs at arL
   split at arL
   ·rename_i gG s2 J
    obtain⟨⟨v,s3⟩,aI,he⟩:=Option.map_eq_some_iff.1 arL
    obtain⟨rfl,rfl⟩:=Prod.mk.inj he
    obtain⟨bl,aT,a2,a3,a4,a5,ng,q2⟩:=ag (k:=k+1) h (fun j au=>by
     have:=bO (j+1) (by simpa using au)
     rw[show k+1+j=k+(j+1) by omega]
     exact this) J
    have ah:br bl w (.rs 0 k) c (X k):=(bO 0 (by simp)).mono a5 fun g av=>⟨rfl,fun i=>by rw[q2],ng g _ (fun j au e=>by injection e;omega) av⟩
    obtain⟨bN,bU,cv,dn,ed,gm,iz⟩:=OV aT ah aI
    have cG:s2.lv=s.lv:=(GB J).lv
    refine⟨bN,bU,by simp[a2],fun j au=>?_,a4.trans (by rw[cG]at dn;exact dn),⟨fun g j c e=>ed.S _ _ _ (a5.S _ _ _ e),fun l t g e=>ed.β _ _ _ (a5.β _ _ _ e)⟩,fun g q aE e=>gm g q (aE k (Nat.le_refl _)) (ng g q (fun j au=>aE j (by omega)) e),iz.trans q2⟩
    cases j with
    | zero=>exact cv
    | succ j=>
      have:=a3 j (by simpa using au)
      rw[show k+1+j=k+(j+1) by omega]at this
      exact this.mono ed fun g av=>⟨rfl,fun i=>by rw[iz],gm g _ (fun e=>by injection e;omega) av⟩
   ·cases arL
theorem OX:zt hs:=⟨GB,OW⟩
theorem GC (s:ab) (u:Nat) (ob:ax):s.c6 s.lv u ob={s with b:=ae s.b u (some ob)}:=by
 unfold ab.c6
 rw[if_pos (show s.lv=s.o.length from rfl)]
theorem Rel.OY (h:Rel G s a w) {u off dd sz:Nat} {cs l:List V} (aj:s.b u=some (.box cs)) (Cy:off<cs.length) (ah:cs.getD off .undef=.uq sz l) (aY:l≠[]) (arM:kV l=true) (aw:s.b dd=none):
 ∃G',Rel G' {s with b:=ae (ae (ae s.b u (some (.box (eg cs off [.undef])))) dd (some (.arr false sz l))) u (some (.box (eg cs off [.bS s.lv dd l.length])))} a w∧Fr s.lv G w G' w:=by
 have dA:s.ob s.lv u=some (.box cs):=by rw[kX];exact aj
 obtain⟨g,av,bA,bo,hK,ad,ai,a8,a6⟩:=h.obj s.lv u _ dA
 have hle:ch G (G.bP (lY s.lv u off 1)):=G.m6 _
 have ni:(eg cs off [V.undef]).length=cs.length:=nW _ _ _ (by show off+1≤_;omega)
 have GD:u≠dd:=by rintro rfl;rw[aj]at aw;cases aw
 have cd:Rel (G.bP (lY s.lv u off 1)) (s.c6 s.lv u (.box (eg cs off [.undef]))) a w:=by
  refine h.c6 dA av bA hle rfl (fun k p ay arM _ fs=>⟨rfl,fun _=>rfl,?_⟩) h.cZ (lR h.aX) (by rw[dw bA];rfl) ?_
  ·rw[dw fs]
   congr 1
   cases p with
   | ba l bY j=>
     simp only[lY]
     split
     ·rename_i bj
      exact absurd (by rw[bj.1,bj.2.1]) (arM j)
     ·rfl
   | _=>rfl
  ·refine⟨bo,hK,ad,by rw[ni];exact ai,a8,fun j au=>?_⟩
   rw[ni]at au
   rw[asb _ _ _ _ (by show off+1≤_;omega)]
   split
   ·rename_i bj
    have e:j=off:=by have:=bj.2;simp only[List.length_cons,List.length_nil]at this;omega
    subst e
    rw[Nat.sub_self]
    exact br.lQ (.undef _) fun _ _ e=>by cases e
   ·rename_i bj
    exact(a6 j au).bP _ (by simp only[lY];rw[if_neg (fun e=>bj ⟨e.2.2.1,by simp only[List.length_cons,List.length_nil];exact e.2.2.2⟩)])
 have bO:dm (G.bP (lY s.lv u off 1)) w (.rs 0 0) sz l (bo.getD off undef):=by
  have J:=a6 off Cy
  rw[ah]at J
  exact br.bP (v:=.uq sz l) J _ (by simp only[lY];rw[if_pos ⟨trivial,trivial,Nat.le_refl _,by omega⟩,Nat.sub_self])
 have f1:Fr s.lv G w (G.bP (lY s.lv u off 1)) w:=o2 fun p=>by
  cases p with
  | ba l bY j=>exact .inr trivial
  | _=>exact .inl rfl
 rw[GC]at cd
 obtain⟨bN,aq,aF,aW,ck,ek,hO⟩:=cd.Gv (dd:=dd) bO aY arM (by show(if dd=u then _ else _)=_;rw[if_neg (Ne.symm GD)];exact aw)
 have aF:aH bN.S bN.β (.bS s.lv dd l.length) (bo.getD off undef):=aF
 have aW:Fr s.lv (G.bP (lY s.lv u off 1)) w bN w:=aW
 have pg:({s with b:=ae (ae s.b u (some (.box (eg cs off [.undef])))) dd (some (.arr false sz l))}:ab).ob s.lv u=some (.box (eg cs off [.undef])):=by
  have:=kX (s:={s with b:=ae (ae s.b u (some (.box (eg cs off [.undef])))) dd (some (.arr false sz l))}) u
  refine this.trans ?_
  show(if u=dd then _ else(if u=u then _ else _))=_
  rw[if_neg GD,if_pos rfl]
 obtain⟨g',bL,cx,Cz,OZ,c8,fK,j9,h6⟩:=aq.obj s.lv u _ pg
 obtain rfl:g'=g:=by
  have:=ck.β _ _ _ (hle.β _ _ _ av)
  rw[bL]at this
  exact Option.some.inj this
 obtain rfl:Cz=bo:=by rw[ad]at c8;injection c8 with e;injection e with e;exact e.symm
 have GF:(eg cs off [V.bS s.lv dd l.length]).length=cs.length:=nW _ _ _ (by show off+1≤_;omega)
 have new:∀j,j<(eg cs off [V.bS s.lv dd l.length]).length→br bN w (.ba s.lv u j) ((eg cs off [V.bS s.lv dd l.length]).getD j .undef) (Cz.getD j undef):=fun j au=>by
  rw[GF]at au
  rw[asb _ _ _ _ (by show off+1≤_;omega)]
  have b4:=h6 j (by rw[ni];exact au)
  rw[asb _ _ _ _ (by show off+1≤_;omega)]at b4
  split
  ·rename_i bj
   have e:j=off:=by have:=bj.2;simp only[List.length_cons,List.length_nil]at this;omega
   subst e
   rw[Nat.sub_self]
   exact br.lQ aF fun _ _ e=>by cases e
  ·rename_i bj
   rw[if_neg (by simpa using bj)]at b4
   exact b4
 have fin:=GC {s with b:=ae (ae s.b u (some (.box (eg cs off [.undef])))) dd (some (.arr false sz l))} u (.box (eg cs off [.bS s.lv dd l.length]))
 have key:=aq.c6 (ob:=.box (eg cs off [.bS s.lv dd l.length])) pg bL cx (ch.refl _) rfl (fun k p _ _ _ fs=>⟨rfl,fun _=>rfl,fs⟩) aq.cZ aq.aX cx ⟨Cz,OZ,c8,by rw[GF,←ni];exact fK,j9,fun j au=>new j au⟩
 exact⟨bN,fin▸key,f1.trans aW⟩
theorem O0 {dd:Nat} {x:Operand} {t:TypeId} {v:V} {s1:ab} (h:Rel G s a w) (arL:pO P s dd t (s.aM P 0 x)=some (v,s1)):b5 P ⟨d,.load t x,ty,pos,af,gd⟩ G s a w v s1:=by
 unfold pO at arL
 split at arL
 ·rename_i lv u off al
  split at arL
  ·rename_i cG
   subst cG
   split at arL
   ·rename_i cs aj
    split at arL
    ·rename_i ah
     obtain⟨Cy,ct,ft⟩:=ah
     split at arL
     ·rename_i sz y l pY
      split at arL
      ·rename_i Ct
       split at arL
       ·rename_i aw
        obtain⟨rfl,rfl⟩:=Prod.mk.inj (Option.some.inj arL)
        obtain⟨bl,cd,f1⟩:=h.OY (l:=y::l) aj Cy pY (by simp) Ct aw
        generalize zx:({s with b:=ae (ae (ae s.b u (some (.box (eg cs off [.undef])))) dd (some (.arr false sz (y::l)))) u (some (.box (eg cs off [.bS s.lv dd (y::l).length])))}:ab)=s3 at cd
        have GG:s3.t=s.t:=by rw[←zx]
        have GH:s3.lv=s.lv:=by rw[←zx];rfl
        have O1:s3.aM P 0 x=.ptr s.lv u off:=by
         rw[←al]
         cases x with
         | tmp i=>show(s3.t i).view=(s.t i).view;rw[GG]
         | const v=>rfl
         | func f=>rfl
         | global g=>rfl
        have O2:s3.ob s.lv u=some (.box (eg cs off [.bS s.lv dd (y::l).length])):=by
         have GI:s3.ob s3.lv u=s3.b u:=kX u
         rw[GH]at GI
         rw[GI,←zx]
         show(if u=u then _ else _)=_
         rw[if_pos rfl]
        have O3:hq P s3 false t (s3.aM P 0 x)=some (.bS s.lv dd (y::l).length,s3):=by
         rw[O1]
         unfold hq
         dsimp only
         rw[O2]
         dsimp only
         have ni:(eg cs off [V.bS s.lv dd (y::l).length]).length=cs.length:=nW _ _ _ (by show off+1≤_;omega)
         rw[if_pos ⟨by rw[ni,ct];omega,by rw[ct];decide⟩,ct,ft,if_neg Bool.false_ne_true]
         have aR:((eg cs off [V.bS s.lv dd (y::l).length]).drop off).take 1=[V.bS s.lv dd (y::l).length]:=by
          unfold eg
          rw[List.append_assoc,List.drop_left' (by rw[List.length_take];omega)]
          rfl
         rw[aR]
         rfl
        obtain⟨X,bN,bL,cx,c8,fK⟩:=um (d:=d) (ty:=ty) (pos:=pos) (af:=af) (gd:=gd) cd O3
        rw[GH]at fK
        exact⟨X,w,bN,bL,zx▸cx,c8,f1.trans fK⟩
       ·cases arL
      ·cases arL
     ·cases arL
    ·cases arL
   ·cases arL
  ·cases arL
 ·cases arL
end Go.aB
namespace Go.aB
open Go
variable {P:Program} {G:bh} {s:ab} {a:Act} {w:World} {o:Oper}
variable {d:Option Nat} {ty:TypeId} {pos:String} {af:Array Edge} {gd:Option (Nat×Bool)}
theorem iA {x:Option V} {v:V} {s1:ab} (h:x.map (·,s)=some (v,s1)):x=some v∧s1=s:=by
 obtain⟨u,hu,he⟩:=Option.map_eq_some_iff.1 h
 obtain⟨rfl,rfl⟩:=Prod.mk.inj he
 exact⟨hu,rfl⟩
theorem O4 {H:Hint} {dd:Nat} {ty':TypeId} {op:Op} {v:V} {s1:ab} (h:Rel G s a w) (O5:∀{i v s1},lL s (s.t i)=some (v,s1)→∃G',Rel G' s1 a w∧bZ G' w bd.rs v (a.eval (.tmp i))∧Fr s.lv G w G' w) (arL:bw P H dd ty op s=some (v,s1)):b5 P ⟨d,op,ty,pos,af,gd⟩ G s a w v s1:=by
 have fc:∀x:Operand,(op=.move x∨op=.assign x)→(match x with
  | .tmp i=>if aG dd H.own then lL s (s.t i)else if aG dd H.c2 then s.tree P ty (.tmp i)else if aG dd H.take then(if aG dd H.make then e1 (s.drop x) dd (s.t i)else some (s.t i,s.drop x))else some ((s.t i).view,s)
  | x=>some (rd P s.t ty x,s))=some (v,s1)→b5 P ⟨d,op,ty,pos,af,gd⟩ G s a w v s1:=by
  intro x U arL
  split at arL
  ·split at arL
   ·obtain⟨G',aq,aF,aW⟩:=O5 arL
    exact⟨_,w,G',by rcases U with rfl | rfl<;>rfl,aq,aF,aW⟩
   split at arL
   ·exact OD h op U arL
   ·split at arL
    ·split at arL
     ·exact OC h op U arL
     ·obtain⟨rfl,rfl⟩:=Prod.mk.inj (Option.some.inj arL)
      exact Mo h op U
    ·obtain⟨rfl,rfl⟩:=Prod.mk.inj (Option.some.inj arL)
     exact Mn h op U
  ·rename_i aC
   obtain⟨rfl,rfl⟩:=Prod.mk.inj (Option.some.inj arL)
   exact Mq h op U fun i e=>aC i e
 unfold bw at arL
 split at arL
 ·exact fc _ (.inl rfl) arL
 ·exact fc _ (.inr rfl) arL
 ·
  split at arL
  ·rename_i qO ah
   obtain⟨rfl,rfl⟩:=Prod.mk.inj (Option.some.inj arL)
   exact Mt h ah
  ·cases arL
 ·
  split at arL
  ·rename_i z ad aD
   split at arL
   ·obtain⟨rfl,rfl⟩:=Prod.mk.inj (Option.some.inj arL)
    exact M3 h ad aD
   ·cases arL
  ·cases arL
 ·
  split at arL
  ·cases arL
  ·cases arL
  ·rename_i u ad aK hu
   split at arL
   ·obtain⟨rfl,rfl⟩:=Prod.mk.inj (Option.some.inj arL)
    exact M5 h ad rfl hu aK
   ·cases arL
  ·cases arL
 ·
  split at arL
  ·rename_i bW z hu aD
   split at arL
   ·rename_i aJ
    obtain⟨r,aI,he⟩:=Option.map_eq_some_iff.1 arL
    obtain⟨rfl,rfl⟩:=Prod.mk.inj he
    exact Nw h hu aD aJ aI
   ·cases arL
  ·rename_i n e z hu aD
   split at arL
   ·rename_i ah
    simp only[Bool.and_eq_true,bne_iff_ne,ne_eq,beq_iff_eq,decide_eq_true_eq]at ah
    obtain⟨⟨⟨⟨J,aa⟩,ar⟩,aP⟩,bf⟩:=ah
    split at arL
    ·rename_i vs s2 aK
     split at arL
     ·rename_i aJ
      obtain⟨rfl,rfl⟩:=Prod.mk.inj (Option.some.inj arL)
      exact Nx h hu aD ar aP J aa aK aJ
     ·cases arL
    ·cases arL
   ·cases arL
  ·cases arL
 ·
  rename_i t n ps
  split at arL
  ·split at arL
   ·rename_i ah
    simp only[Bool.and_eq_true,bne_iff_ne,ne_eq,beq_iff_eq,decide_eq_true_eq]at ah
    obtain⟨⟨⟨⟨⟨J,aa⟩,ar⟩,aP⟩,bf⟩,b4⟩:=ah
    obtain⟨e,he,jF⟩:=jC J
    obtain⟨z,aD⟩:=Option.isSome_iff_exists.1 b4
    have w5:c3 P t=az P e:=by unfold c3;rw[jF]
    rw[w5]at aP bf arL
    rw[jF]at aD arL
    split at arL
    ·rename_i vs s2 aK
     split at arL
     ·rename_i aJ
      obtain⟨rfl,rfl⟩:=Prod.mk.inj (Option.some.inj arL)
      rw[Bool.and_eq_true]at aJ
      exact OR h he aP aD aa ar bf aK aJ.1
     ·cases arL
    ·cases arL
   ·cases arL
  split at arL
  ·rename_i ah
   simp only[Bool.and_eq_true,bne_iff_ne,ne_eq,beq_iff_eq,decide_eq_true_eq]at ah
   obtain⟨⟨⟨⟨⟨J,aa⟩,ar⟩,aP⟩,bf⟩,b4⟩:=ah
   obtain⟨e,he,jF⟩:=jC J
   obtain⟨z,aD⟩:=Option.isSome_iff_exists.1 b4
   have w5:c3 P t=az P e:=by unfold c3;rw[jF]
   rw[w5]at aP bf arL
   rw[jF]at aD arL
   split at arL
   ·rename_i vs s2 aK
    split at arL
    ·rename_i aJ
     split at arL
     ·split at arL
      ·rename_i ad
       obtain⟨rfl,rfl⟩:=Prod.mk.inj (Option.some.inj arL)
       exact Na h he aP aD aa ar bf aK aJ ad
      ·cases arL
     ·obtain⟨rfl,rfl⟩:=Prod.mk.inj (Option.some.inj arL)
      exact M9 h he aP aD aa ar bf aK aJ
    ·cases arL
   ·cases arL
  ·cases arL
 ·split at arL
  ·exact O0 h arL
  ·exact MZ h arL
 ·
  split at arL<;>first
   | (cases arL;done)
   | (rename_i ah
      obtain⟨rfl,rfl⟩:=Prod.mk.inj (Option.some.inj arL)
      refine Mu h ah ?_
      first
       | exact .inl ⟨_,_,_,rfl⟩
       | exact .inr (.inl ⟨_,rfl⟩)
       | exact .inr (.inr (.inl ⟨_,_,_,_,rfl⟩))
       | exact .inr (.inr (.inr ⟨_,_,rfl⟩)))
 ·split at arL
  ·rename_i aC
   obtain⟨k,rfl⟩:=iA arL;exact MD h aC k
  ·obtain⟨k,rfl⟩:=iA arL;exact MC h k
 ·obtain⟨k,rfl⟩:=iA arL;exact My h k
 ·obtain⟨k,rfl⟩:=iA arL;exact MS h k
 ·
  split at arL
  ·rename_i aJ
   obtain⟨cs,en,he⟩:=Option.map_eq_some_iff.1 arL
   obtain⟨rfl,rfl⟩:=Prod.mk.inj he
   rename_i first bg
   obtain rfl:first=#[]:=Array.isEmpty_iff.1 aJ
   exact MT h en
  ·cases arL
 ·
  split at arL
  ·rename_i ad
   obtain⟨rfl,rfl⟩:=Prod.mk.inj (Option.some.inj arL)
   exact M4 h ad
  ·cases arL
 ·
  rename_i t l c
  split at arL
  ·rename_i n m z U aA aD
   split at arL
   ·rename_i ah
    obtain⟨J,aa,ar,aP,bf⟩:=ah
    obtain⟨e,he,jF⟩:=jC J
    have w5:c3 P t=az P e:=by unfold c3;rw[jF]
    rw[w5]at aa aP bf arL
    rw[jF]at aD ar arL
    split at arL
    ·rename_i aI
     split at arL
     ·split at arL
      ·rename_i ad
       obtain⟨rfl,rfl⟩:=Prod.mk.inj (Option.some.inj arL)
       exact Nf h he U aA aD aP aa bf ar aI.1 aI.2.1 aI.2.2 ad
      ·cases arL
     ·split at arL
      ·split at arL
       ·rename_i ad
        split at arL
        ·rename_i arY
         obtain⟨rfl,rfl⟩:=Prod.mk.inj (Option.some.inj arL)
         exact OM h he U aA aD aP aa bf ar aI.1 aI.2.1 aI.2.2 ad arY.1
        ·cases arL
       ·cases arL
      ·obtain⟨rfl,rfl⟩:=Prod.mk.inj (Option.some.inj arL)
       exact Nd h he U aA aD aP aa bf ar aI.1 aI.2.1 aI.2.2
    ·cases arL
   ·cases arL
  ·cases arL
 ·
  split at arL
  ·rename_i l r m ai aI hm
   obtain⟨k,rfl⟩:=iA arL
   exact MO h ai aI hm k
  ·cases arL
 ·obtain⟨k,rfl⟩:=iA arL;exact MH h k
 ·obtain⟨k,rfl⟩:=iA arL;exact MI h k
 ·obtain⟨k,rfl⟩:=iA arL;exact MJ h k
 ·obtain⟨k,rfl⟩:=iA arL;exact MK h k
 ·split at arL
  ·rename_i kt e hu
   obtain⟨k,rfl⟩:=iA arL;exact NK h hu k
  ·cases arL
 ·
  split at arL
  ·split at arL
   ·rename_i u l hu
    obtain⟨x,U,he⟩:=Option.map_eq_some_iff.1 arL
    obtain⟨rfl,rfl⟩:=Prod.mk.inj he
    have dt:=Nr (d:=some dd) (ty:=ty) (pos:=pos) (af:=af) (gd:=gd) (P:=P) h hu U
    split
    ·exact dt.settle rfl
    ·exact dt
   ·cases arL
  ·cases arL
 ·
  rename_i b args argTypes
  obtain⟨args⟩:=args
  obtain⟨argTypes⟩:=argTypes
  dsimp only at arL
  split at arL
  ·obtain⟨k,rfl⟩:=iA arL;exact ME h k
  ·obtain⟨k,rfl⟩:=iA arL;exact MF h k
  ·obtain⟨k,rfl⟩:=iA arL;exact MG h k
  ·split at arL
   ·split at arL
    ·rename_i aA
     obtain⟨u,hu,he⟩:=Option.map_eq_some_iff.1 arL
     obtain⟨rfl,rfl⟩:=Prod.mk.inj he
     exact OE h aA hu
    ·cases arL
   ·obtain⟨u,hu,he⟩:=Option.map_eq_some_iff.1 arL
    obtain⟨rfl,rfl⟩:=Prod.mk.inj he
    exact N6 h hu
  ·cases arL
 ·cases arL
theorem O6 {H:Hint} {op:Op} {s1:ab} (h:Rel G s a w) (arL:gu P H op s=some s1):wQ P ⟨d,op,ty,pos,af,gd⟩ G s a w s1:=by
 unfold gu at arL
 split at arL
 ·split at arL
  ·exact Cu OA h arL
  ·split at arL
   ·exact Cu OB h arL
   ·split at arL
    ·exact Cu OX h arL
    ·exact Np h arL
 ·exact Gn h arL _ (.inl rfl)
 ·exact Gn h arL _ (.inr rfl)
 ·cases arL
end Go.aB
