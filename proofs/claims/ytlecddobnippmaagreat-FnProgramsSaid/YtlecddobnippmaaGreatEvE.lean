/- Stores; parts of a tuple; structs. Parts of a tuple; structs and arrays. -/
import Derived.Test.YtlecddobnippmaaGreatEvD
set_option linter.unusedVariables false
set_option linter.unusedSimpArgs false
namespace Go.aB
open Go
variable {P:Program} {G:bh} {s:ab} {a:Act} {w:World} {o:Oper}
variable {d:Option Nat} {ty:TypeId} {pos:String} {af:Array Edge} {gd:Option (Nat×Bool)}
theorem wO {t:TypeId} (aD:az P t≠0) {g off:Nat} {cs:Array Value} {F5:TypeId} {x:Value} (av:w.heap[g]?=some (.cells cs F5 (0,0))) (U:x.cells.size=az P t) (ad:off+az P t≤cs.size) (J:∀u∈x.cells.toList,u.oneCell'=true):
 (storeVar t ⟨g,off,none⟩ x).run P w=.ok () (w.setRow g (cs.toList.take off++x.cells.toList++cs.toList.drop (off+az P t)).toArray):=by
 have cQ:=run_storeCells_at P g off F5 x.cells.toList 0 cs w av (by simp[U];exact ad) J
 simp only[Nat.add_zero,Array.length_toList,U]at cQ
 unfold storeVar
 simp only[Sem.run_bind,lT aD,Result.andThen_ok,U,ne_eq,not_true_eq_false,if_false]
 exact cQ
theorem zj {cs:Array Value} {vs:List Value} {off n j:Nat} (arL:vs.length=n) (ad:off+n≤cs.size):(cs.toList.take off++vs++cs.toList.drop (off+n)).toArray.getD j Go.undef=if off≤j∧j<off+n then vs.getD (j-off) Go.undef else cs.getD j Go.undef:=by
 simp only[Array.getD_eq_getD_getElem?,List.getElem?_toArray,List.append_assoc,List.getD_eq_getElem?_getD]
 by_cases J:j<off
 ·rw[List.getElem?_append_left (by simp;omega),List.getElem?_take,if_pos J,if_neg (by omega)]
  simp
 ·rw[List.getElem?_append_right (by simp;omega)]
  simp only[List.length_take,Array.length_toList,Nat.min_eq_left (show off≤cs.size by omega)]
  by_cases aa:j-off<vs.length
  ·rw[List.getElem?_append_left aa,if_pos (by omega)]
  ·rw[List.getElem?_append_right (by omega),if_neg (by omega),List.getElem?_drop]
   rw[show off+n+(j-off-vs.length)=j by omega]
   simp
theorem wP {cs:Array Value} {vs:List Value} {off n:Nat} (arL:vs.length=n) (ad:off+n≤cs.size):(cs.toList.take off++vs++cs.toList.drop (off+n)).toArray.size=cs.size:=by
 simp only[List.size_toArray,List.length_append,List.length_take,List.length_drop,Array.length_toList]
 omega
theorem uz (x:Operand) (lv u:Nat):(s.drop x).ob lv u=s.ob lv u:=by cases x<;>rfl
theorem nc (x:Operand):(s.drop x).lv=s.lv:=by cases x<;>rfl
def ar3 (lv u off:Nat):bd→bd
 | .rs 0 j=>.ba lv u (off+j)
 | p=>p
theorem cX.split {S β} {w:World}:∀{l1 gG:List V} {bs:List Nat} {xs:List Value},cX S β w bs (l1++gG) xs→∃zk zl,bs=zk++zl∧cX S β w zk l1 (xs.take l1.length)∧cX S β w zl gG (xs.drop l1.length):=by
 intro l1
 induction l1 with
 | nil=>intro gG bs xs h;exact⟨[],bs,rfl,.nil,h⟩
 | cons v l1 ag=>
   intro gG bs xs h
   rw[List.cons_append]at h
   cases h with
   | leaf arM h k=>
     obtain⟨bU,cv,rfl,aq,aF⟩:=ag k
     exact⟨bU,cv,rfl,.leaf arM h aq,aF⟩
   | emp k=>
     obtain⟨bU,cv,rfl,aq,aF⟩:=ag k
     exact⟨bU,cv,rfl,.emp aq,aF⟩
   | eZ av ah hm al a8 ay k=>
     obtain⟨bU,cv,rfl,aq,aF⟩:=ag k
     refine⟨_::(_++bU),cv,?_,.eZ av ah hm al a8 ay aq,aF⟩
     simp
theorem cX.F6 {p:Nat→bd} (arM:∀i j,p i=p j→i=j):∀{c:List V} {xs:List Value} {k:Nat},c.length=xs.length→c.all nO=true→(∀j,j<c.length→br G w (p (k+j)) (c.getD j .undef) (xs.getD j Go.undef))→
 ∃bs:List Nat,bs.Nodup∧(∀b∈bs,∃j,k≤j∧G.aV b=some (p j))∧cX G.S G.β w bs c xs:=by
 intro c
 induction c with
 | nil=>intro xs k ai _ _;obtain rfl:=List.eq_nil_of_length_eq_zero ai.symm;exact⟨[],List.nodup_nil,(fun b ad=>by cases ad),.nil⟩
 | cons v c ag=>
   intro xs k ai hu h
   cases xs with
   | nil=>cases ai
   | cons x xs=>
     rw[List.all_cons,Bool.and_eq_true]at hu
     obtain⟨bs,J,aa,ar⟩:=ag (k:=k+1) (by simpa using ai) hu.2 (fun j au=>by
      have:=h (j+1) (by simpa using au)
      rw[show k+1+j=k+(j+1) by omega]
      exact this)
     have bn:br G w (p k) v x:=h 0 (by simp)
     by_cases aE:∃sz l,v=.uq sz l
     ·obtain⟨sz,l,rfl⟩:=aE
      obtain⟨cw,bk,t0,d0⟩:=(bn:dm G w (p k) sz l x)
      refine⟨cw++bs,List.nodup_append.2 ⟨bk,J,fun a aO b ad e=>?_⟩,fun b ad=>?_,?_⟩
      ·subst e
       obtain⟨j,au,e⟩:=aa a ad
       rw[t0 a aO]at e
       have:=arM _ _ (Option.some.inj e)
       omega
      ·rcases List.mem_append.1 ad with ad | ad
       ·exact⟨k,Nat.le_refl _,t0 b ad⟩
       ·obtain⟨j,au,e⟩:=aa b ad
        exact⟨j,by omega,e⟩
      ·exact d0.app ar
     ·have Ce:bM v=true:=by
       have:=hu.1
       cases v<;>first | exact absurd ⟨_,_,rfl⟩ aE | exact this
      have Nl:∀l,v≠.nw l:=by rintro l rfl;cases Ce
      have a6:aH G.S G.β v x:=by
       have:=bn.view
       have e:v.cM=v:=by
        cases v<;>first | rfl | exact absurd ⟨_,_,rfl⟩ aE | exact absurd rfl (Nl _) | skip
        rename_i o sz l
        cases o
        ·rfl
        ·cases Ce
       rw[e]at this
       exact this
      exact⟨bs,J,fun b ad=>by obtain⟨j,au,e⟩:=aa b ad;exact⟨j,by omega,e⟩,.leaf Ce a6 ar⟩
theorem F7 {l:List V} {i:Nat} {v:V} (hi:i<l.length):((l.set i v).map V.flat).flatten=((l.take i).map V.flat).flatten++(v.flat++((l.drop (i+1)).map V.flat).flatten):=by
 rw[List.set_eq_take_append_cons_drop,if_pos hi,List.map_append,List.flatten_append,List.map_cons,List.flatten_cons]
theorem Nn {l:List V} {i:Nat} (hi:i<l.length):(l.map V.flat).flatten=((l.take i).map V.flat).flatten++((l[i]).flat++((l.drop (i+1)).map V.flat).flatten):=by
 have:=F7 (v:=l[i]) hi
 rw[List.set_getElem_self]at this
 exact this
theorem cX.set {S β} {w:World} {bs bv:List Nat} {l:List V} {sz i:Nat} {v:V} {xs ue:List Value} (h:cX S β w bs (l.map V.flat).flatten xs) (al:∀x∈l,x.flat.length=sz) (hi:i<l.length) (arL:cX S β w bv v.flat ue):
 ∃jj,(∀b∈jj,b∈bs∨b∈bv)∧(bs.Nodup→bv.Nodup→(∀b∈bs,∀c∈bv,b≠c)→jj.Nodup)∧cX S β w jj ((l.set i v).map V.flat).flatten (xs.take (i*sz)++(ue++xs.drop (i*sz+sz))):=by
 rw[Nn hi]at h
 obtain⟨bU,cv,rfl,aq,aF⟩:=h.split
 obtain⟨dn,ed,rfl,aW,ck⟩:=aF.split
 have aR:((l.take i).map V.flat).flatten.length=i*sz:=by
  rw[o1 fun x U=>al x (List.mem_of_mem_take U),List.length_take,Nat.min_eq_left (Nat.le_of_lt hi)]
 have a7:(l[i]).flat.length=sz:=al _ (List.getElem_mem hi)
 rw[aR]at aq ck
 rw[a7,List.drop_drop]at ck
 rw[F7 hi]
 refine⟨bU++(bv++ed),fun b ad=>?_,fun fk hx hN=>?_,aq.app (arL.app ck)⟩
 ·simp only[List.mem_append]at ad⊢
  rcases ad with ad | ad | ad
  ·exact .inl (.inl ad)
  ·exact .inr ad
  ·exact .inl (.inr (.inr ad))
 ·rw[List.nodup_append]at fk
  obtain⟨bL,cx,c8⟩:=fk
  rw[List.nodup_append]at cx
  obtain⟨fK,j9,h6⟩:=cx
  refine List.nodup_append.2 ⟨bL,List.nodup_append.2 ⟨hx,j9,fun a aO b ad e=>?_⟩,fun a aO b ad=>?_⟩
  ·exact hN b (by simp[ad]) a aO e.symm
  ·rcases List.mem_append.1 ad with ad | ad
   ·exact hN a (by simp[aO]) b ad
   ·exact c8 a aO b (List.mem_append_right _ ad)
theorem F8 {p:bd} {v:V} {x:Value} (h:br G w p v x):br G w p v.rU x:=by
 by_cases aE:∃sz l,v=.uq sz l
 ·obtain⟨sz,l,rfl⟩:=aE;exact h
 ·have e:v.rU=v.cM:=by cases v<;>first | rfl | exact absurd ⟨_,_,rfl⟩ aE
  rw[e]
  refine br.lQ h.view fun sz l e=>?_
  cases v<;>first | (cases e;done) | skip
theorem F9 {v:V} (arL:v.hand.flat.all nO=true):v.hand.flat=v.flat.map V.rU:=by
 cases v<;>first | rfl | (simp[V.hand,V.view,V.flat,nO,bM]at arL;done)
theorem Ga (l:List V) (i:Nat):(l.map V.rU).getD i .undef=(l.getD i .undef).rU:=by
 simp only[List.getD_eq_getElem?_getD,List.getElem?_map]
 cases l[i]?<;>rfl
theorem uA {v:V} (h:bM v=true):jt v=true:=by
 unfold jt
 split
 ·rfl
 ·exact h
def No (lv u:Nat):bd→bd
 | .rs 0 _=>.ba lv u 0
 | p=>p
def wQ (P:Program) (o:Oper) (G:bh) (s:ab) (a:Act) (w:World) (s1:ab):Prop:=
 ∃w' G',(execOp a.eval o).run P w=.ok .skip w'∧Rel G' s1 a w'∧Fr s.lv G w G' w'
theorem Np {x y:Operand} {t:TypeId} {s1:ab} (h:Rel G s a w) (arL:rV P s t y (s.aM P 0 x)=some s1):wQ P ⟨d,.store t x y,ty,pos,af,gd⟩ G s a w s1:=by
 have U:=h.aM P 0 x
 unfold rV at arL
 generalize s.aM P 0 x=ue at arL U
 have fin:∀{g off:Nat} {w':World} {G':bh},a.eval x=.pointer (some ⟨g,off,none⟩)→(storeVar t ⟨g,off,none⟩ (a.eval y)).run P w=.ok () w'→Rel G' s1 a w'→Fr s.lv G w G' w'→wQ P ⟨d,.store t x y,ty,pos,af,gd⟩ G s a w s1:=by
  intro g off w' G' aR a7 cj da
  refine⟨w',G',?_,cj,da⟩
  simp only[execOp,Instr.storeAt,aR,Instr.sureAddr,Sem.run_bind,Sem.run_pure,Result.andThen_ok,a7]
 split at arL
 ·rename_i lv u off
  dsimp only at arL
  split at arL
  ·rename_i cs aj
   split at arL
   ·rename_i ah
    obtain⟨ai,ad,aD,gj,_⟩:=ah
    obtain⟨bl,J,aa,ar,_,bf,b4⟩:=h.all P t y
    have hu:s.all P t y≠.undef:=by rintro e;rw[e]at gj;cases gj
    have aK:∀l,s.all P t y≠.tup l:=by intro l e;rw[e]at gj;cases gj
    have sk:s1=(s.drop y).c6 lv u (.box (eg cs off (s.all P t y).flat)):=by
     split at arL
     ·cases arL
     ·cases arL
     ·exact(Option.some.inj arL).symm
    subst sk
    obtain⟨bt,bq⟩:=(aa.qU aK).cells hu aK
    obtain⟨g,av,n4⟩:=U.qT
    rw[←b4]at av
    obtain⟨g',bT,bA,bo,hK,jG,hlen,a8,a6⟩:=J.obj lv u _ (by rw[uz];exact aj)
    obtain rfl:g'=g:=by rw[av]at bT;exact(Option.some.inj bT).symm
    have ct:(a.eval y).cells.size=az P t:=by omega
    have p0:∀z∈(a.eval y).cells.toList,z.oneCell'=true:=by
     intro z eW
     obtain⟨j,au,rfl⟩:=List.getElem_of_mem eW
     have di:j<(s.all P t y).flat.length:=by simp at au;omega
     have:=bq j di
     have ah:mr ((s.all P t y).flat.getD j .undef)=true:=by
      rw[List.all_eq_true]at gj
      refine gj _ ?_
      rw[List.getD_eq_getElem?_getD,List.getElem?_eq_getElem di,Option.getD_some]
      exact List.getElem_mem di
     have:=(this.one ah).2
     rw[nU (by simpa using au)]at this
     simpa using this
    have cQ:=wO (P:=P) aD jG ct (off:=off) (by omega) p0
    have eU:=setRow_heap w g' bo (bo.toList.take off++(a.eval y).cells.toList++bo.toList.drop (off+az P t)).toArray hK _ jG
    generalize cR:w.setRow g' (bo.toList.take off++(a.eval y).cells.toList++bo.toList.drop (off+az P t)).toArray=w' at cQ eU
    have ej:∀k,k≠g'→w'.heap[k]?=w.heap[k]?:=fun k ay=>by rw[←cR];exact setRow_other w g' k _ ay
    have hM:w'.heap.size=w.heap.size:=by rw[←cR];simp
    have cG:(s.drop y).lv=s.lv:=nc y
    refine fin n4 cQ (J.c6 (G':=bl.bP (ar3 lv u off)) (by rw[uz];exact aj) av bA (bl.m6 _) rfl (fun k p ay arM aI fs=>⟨ej k ay,fun _=>rfl,?_⟩) (fun k j c ah=>?_) (fun k p arM=>by rw[hM];exact lR J.aX k p arM) (by rw[dw bA];rfl) ?_) (ar.trans ⟨by rw[←cR];rfl,by rw[←cR];rfl,by rw[←cR];rfl,by rw[hM];exact Nat.le_refl _,fun k ay hm=>⟨ej k (by rintro rfl;exact hm _ bA trivial),?_,fun _=>rfl⟩,fun _ _ _ e=>e,fun _ _ _=>rfl⟩)
    ·rw[dw fs]
     cases p with
     | rs c j=>exact absurd rfl (aI c j)
     | _=>rfl
    ·have gw:k≠g':=by rintro rfl;have:bl.S k j=some c:=ah;rw[a8]at this;cases this
     have:=J.cZ _ _ _ ah
     simp only[World.cell?,ej k gw]
     exact this
    ·refine⟨_,hK,eU,?_,a8,fun j au=>?_⟩
     ·rw[nW _ _ _ (by omega),wP (by simp[ct]) (by omega)];exact hlen
     ·rw[nW _ _ _ (by omega)]at au
      rw[asb _ _ _ _ (by omega),zj (by simp[ct]) (by omega),ai]
      by_cases dr:off≤j∧j<off+az P t
      ·rw[if_pos dr,if_pos dr]
       have:=bq (j-off) (by omega)
       have cH:=(this.bP (ar3 lv u off) (p':=.ba lv u j) (by simp only[ar3];congr 1;omega)).mono (G':=bl.bP (ar3 lv u off)) (w':=w') (p':=.ba lv u j) ⟨fun _ _ _ e=>e,fun _ _ _ e=>e⟩ (fun k ay=>⟨ej k (by
        rintro rfl
        have nd:=dw (f:=ar3 lv u off) bA
        rw[ay]at nd
        cases nd),fun _=>rfl,ay⟩)
       simpa[List.getD_eq_getElem?_getD,Array.getD_eq_getD_getElem?]using cH
      ·rw[if_neg dr,if_neg dr]
       exact(a6 j au).mono (bl.m6 _) (fun k ay=>⟨ej k (by rintro rfl;rw[bA]at ay;cases ay),fun _=>rfl,by rw[dw ay];rfl⟩)
    ·cases kZ:bl.aV k with
     | none=>simp[bh.bP,kZ]
     | some p=>
       rw[dw kZ]
       cases p with
       | rs c j=>exact absurd trivial (hm _ kZ)
       | _=>rfl
   ·cases arL
  ·cases arL
 ·rename_i lv u i sz
  split at arL
  ·rename_i b8 l aj
   dsimp only at arL
   split at arL
   ·rename_i ah
    obtain⟨ct,rfl,df,aD,hi,p1⟩:=ah
    obtain rfl:=Option.some.inj arL
    obtain⟨bl,J,aa,ar,_,bf,b4⟩:=h.all P t y
    have uB:=F9 p1
    have Nq:(s.all P t y).flat.length=b8:=by rw[uB,List.length_map]at df;exact df
    have hu:s.all P t y≠.undef:=by rintro e;rw[e]at p1;cases p1
    have aK:∀l,s.all P t y≠.tup l:=by intro l e;rw[e]at p1;cases p1
    obtain⟨bt,bq⟩:=(aa.qU aK).cells hu aK
    obtain⟨g,av,n4⟩:=U.za
    rw[←b4]at av
    obtain⟨g',bT,bA,bo,hK,bs,jG,hlen,al,a8,wR,uC,mB⟩:=J.obj lv u _ (by rw[uz];exact aj)
    obtain rfl:g'=g:=by rw[av]at bT;exact(Option.some.inj bT).symm
    have wS:az P t≠0:=by omega
    have pa:(a.eval y).cells.size=az P t:=by omega
    have p2:i*b8+b8≤bo.size:=by
     rw[hlen]
     calc i*b8+b8=(i+1)*b8:=by rw[Nat.succ_mul]
      _≤l.length*b8:=Nat.mul_le_mul_right _ hi
    have cN:∀j,j<(s.all P t y).hand.flat.length→br bl w (.rs 0 (0+j)) ((s.all P t y).hand.flat.getD j .undef) ((a.eval y).cells.toList.getD j Go.undef):=fun j au=>by
     rw[uB,List.length_map]at au
     rw[uB,Ga,Nat.zero_add]
     have:=F8 (bq j au)
     simpa[List.getD_eq_getElem?_getD,Array.getD_eq_getD_getElem?]using this
    obtain⟨bv,v1,v2,v3⟩:=cX.F6 (p:=bd.rs 0) (fun i j e=>by injection e) (k:=0) (by simp;omega) p1 cN
    have p0:∀z∈(a.eval y).cells.toList,z.oneCell'=true:=by
     intro z eW
     obtain⟨j,au,rfl⟩:=List.getElem_of_mem eW
     have di:j<(s.all P t y).hand.flat.length:=by simp at au;omega
     have dh:=cN j di
     have ah:mr ((s.all P t y).hand.flat.getD j .undef)=true:=by
      have cH:=List.all_eq_true.1 p1 _ (List.getElem_mem di)
      rw[List.getD_eq_getElem?_getD,List.getElem?_eq_getElem di,Option.getD_some]
      generalize (s.all P t y).hand.flat[j]=z at cH
      cases z<;>first | rfl | (cases cH;done)
     have:=(dh.one ah).2
     rw[List.getD_eq_getElem?_getD,List.getElem?_eq_getElem au]at this
     exact this
    have cQ:=wO (P:=P) wS jG pa (off:=i*b8) (by omega) p0
    have eU:=setRow_heap w g' bo (bo.toList.take (i*b8)++(a.eval y).cells.toList++bo.toList.drop (i*b8+az P t)).toArray hK _ jG
    generalize cR:w.setRow g' (bo.toList.take (i*b8)++(a.eval y).cells.toList++bo.toList.drop (i*b8+az P t)).toArray=w' at cQ eU
    have ej:∀k,k≠g'→w'.heap[k]?=w.heap[k]?:=fun k ay=>by rw[←cR];exact setRow_other w g' k _ ay
    have hM:w'.heap.size=w.heap.size:=by rw[←cR];simp
    have cG:(s.drop y).lv=s.lv:=nc y
    obtain⟨jj,t1,t2,t3⟩:=mB.set al hi v3
    have Cf:∀b∈bs,∀c∈bv,b≠c:=fun b ad c ah e=>by
     subst e
     obtain⟨j,_,e⟩:=v2 b ah
     rw[uC b ad]at e
     cases e
    have zh:∀b∈jj,b≠g':=fun b ad e=>by
     subst e
     rcases t1 b ad with cH | cH
     ·rw[uC b cH]at bA;cases bA
     ·obtain⟨j,_,e⟩:=v2 b cH
      rw[e]at bA;cases bA
    refine fin n4 cQ (J.c6 (G':=bl.bP (No lv u)) (by rw[uz];exact aj) av bA (bl.m6 _) rfl (fun k p ay arM aI fs=>⟨ej k ay,fun _=>rfl,?_⟩) (fun k j c ah=>?_) (fun k p arM=>by rw[hM];exact lR J.aX k p arM) (by rw[dw bA];rfl) ?_) (ar.trans ⟨by rw[←cR];rfl,by rw[←cR];rfl,by rw[←cR];rfl,by rw[hM];exact Nat.le_refl _,fun k ay hm=>⟨ej k (by rintro rfl;exact hm _ bA trivial),?_,fun _=>rfl⟩,fun _ _ _ e=>e,fun _ _ _=>rfl⟩)
    ·rw[dw fs]
     cases p with
     | rs c j=>exact absurd rfl (aI c j)
     | _=>rfl
    ·have gw:k≠g':=by rintro rfl;have:bl.S k j=some c:=ah;rw[a8]at this;cases this
     have:=J.cZ _ _ _ ah
     simp only[World.cell?,ej k gw]
     exact this
    ·refine⟨_,hK,jj,eU,by rw[wP (by simp[pa]) (by omega),List.length_set];exact hlen,fun z eW=>?_,a8,t2 wR v1 Cf,fun b ad=>?_,?_⟩
     ·rcases List.mem_or_eq_of_mem_set eW with eW | rfl
      ·exact al z eW
      ·exact df
     ·rcases t1 b ad with cH | cH
      ·rw[dw (uC b cH)];rfl
      ·obtain⟨j,_,e⟩:=v2 b cH
       rw[dw e];rfl
     ·rw[←ct,List.append_assoc]
      exact t3.mono (fun _ _ _ e=>e) fun b ad=>⟨ej b (zh b ad),fun _=>rfl⟩
    ·cases kZ:bl.aV k with
     | none=>simp[bh.bP,kZ]
     | some p=>
       rw[dw kZ]
       cases p with
       | rs c j=>exact absurd trivial (hm _ kZ)
       | _=>rfl
   ·cases arL
  ·split at arL
   ·rename_i v s2 sm
    split at arL
    ·rename_i b8 l aj
     split at arL
     ·rename_i ah
      obtain⟨ct,rfl,df,aD,hi⟩:=ah
      obtain rfl:=Option.some.inj arL
      obtain⟨bl,J,aa,ar,aP,bf,b4⟩:=h.tree sm
      obtain⟨g,av,n4⟩:=U.za
      have wT:=aa.le.β _ _ _ av
      obtain⟨g',bT,bA,bo,hK,jG,hlen,al,a6,a8⟩:=J.obj lv u _ aj
      obtain rfl:g'=g:=by rw[wT]at bT;exact(Option.some.inj bT).symm
      have sf:∀j,bl.S g' j=none:=a8
      obtain⟨bt,bq⟩:=zi ar bf
      have wS:az P t≠0:=by omega
      have pa:(a.eval y).cells.size=az P t:=by omega
      have p2:i*b8+b8≤bo.size:=by
       refine Nat.le_trans ?_ hlen
       calc i*b8+b8=(i+1)*b8:=by rw[Nat.succ_mul]
        _≤l.length*b8:=Nat.mul_le_mul_right _ hi
      have p0:∀z∈(a.eval y).cells.toList,z.oneCell'=true:=by
       intro z eW
       obtain⟨j,au,rfl⟩:=List.getElem_of_mem eW
       have di:j<v.flat.length:=by simp at au;omega
       have dh:=bq j di
       have cH:bM (v.flat.getD j .undef)=true:=by
        rw[List.all_eq_true]at aP
        refine aP _ ?_
        rw[List.getD_eq_getElem?_getD,List.getElem?_eq_getElem di,Option.getD_some]
        exact List.getElem_mem di
       have:=(uv dh (by intro e;rw[e]at cH;cases cH) (by intro l e;rw[e]at cH;cases cH)).2
       rw[nU (by simpa using au)]at this
       simpa using this
      have cQ:=wO (P:=P) wS jG pa (off:=i*b8) (by omega) p0
      have eU:=setRow_heap w g' bo (bo.toList.take (i*b8)++(a.eval y).cells.toList++bo.toList.drop (i*b8+az P t)).toArray hK _ jG
      generalize cR:w.setRow g' (bo.toList.take (i*b8)++(a.eval y).cells.toList++bo.toList.drop (i*b8+az P t)).toArray=w' at cQ eU
      have ej:∀k,k≠g'→w'.heap[k]?=w.heap[k]?:=fun k ay=>by rw[←cR];exact setRow_other w g' k _ ay
      have hM:w'.heap.size=w.heap.size:=by rw[←cR];simp
      refine fin n4 cQ (J.c6 (G':=bl) aj wT bA (ch.refl _) rfl (fun k p ay arM aI fs=>⟨ej k ay,fun _=>rfl,fs⟩) (fun k j c ah=>?_) (fun k p arM=>by rw[hM];exact J.aX k p arM) bA ?_) (aa.cC.trans ⟨by rw[←cR];rfl,by rw[←cR];rfl,by rw[←cR];rfl,by rw[hM];exact Nat.le_refl _,fun k ay hm=>⟨ej k (by rintro rfl;exact hm _ bA trivial),rfl,fun _=>rfl⟩,fun _ _ _ e=>e,fun _ _ _=>rfl⟩)
      ·have gw:k≠g':=by rintro rfl;rw[sf]at ah;cases ah
       have:=J.cZ _ _ _ ah
       simp only[World.cell?,ej k gw]
       exact this
      ·refine⟨_,hK,eU,by rw[wP (by simp[pa]) (by omega),List.length_set];exact hlen,fun z eW=>?_,fun p q arM aE=>?_,a8⟩
       ·rcases List.mem_or_eq_of_mem_set eW with eW | rfl
        ·exact al z eW
        ·exact⟨df,aP⟩
       ·rw[List.length_set]at arM
        rw[zj (by simp[pa]) (by omega)]
        by_cases sn:p=i
        ·subst sn
         have aR:(l.set p v).getD p .undef=v:=by simp[List.getD_eq_getElem?_getD,arM]
         rw[if_pos (by omega),aR]
         have:=bq q (by omega)
         simpa[List.getD_eq_getElem?_getD,Array.getD_eq_getD_getElem?,show p*b8+q-p*b8=q by omega]using this
        ·have aR:(l.set i v).getD p .undef=l.getD p .undef:=by simp[List.getD_eq_getElem?_getD,List.getElem?_set,Ne.symm sn]
         have aY:¬(i*b8≤p*b8+q∧p*b8+q<i*b8+az P t):=by
          rintro⟨aT,a2⟩
          rcases Nat.lt_or_gt_of_ne sn with aL | mC
          ·have:=jE aL aE;omega
          ·have:=Nat.mul_le_mul_right b8 (show i+1≤p from mC)
           rw[Nat.succ_mul]at this
           omega
         rw[if_neg aY,aR]
         exact a6 p q arM aE
     ·cases arL
    ·rename_i b8 l aj
     split at arL
     ·rename_i ah
      obtain⟨ct,rfl,df,aD,hi⟩:=ah
      obtain rfl:=Option.some.inj arL
      obtain⟨bl,J,aa,ar,aP,bf,b4⟩:=h.tree sm
      obtain⟨g,av,n4⟩:=U.za
      have wT:=aa.le.β _ _ _ av
      obtain⟨g',bT,bA,bo,hK,jG,hlen,al,a6,a8⟩:=J.obj lv u _ aj
      obtain rfl:g'=g:=by rw[wT]at bT;exact(Option.some.inj bT).symm
      have sf:∀j,bl.S g' j=none:=a8
      obtain⟨bt,bq⟩:=zi ar bf
      have wS:az P t≠0:=by omega
      have pa:(a.eval y).cells.size=az P t:=by omega
      have p2:i*b8+b8≤bo.size:=by
       refine Nat.le_trans ?_ hlen
       calc i*b8+b8=(i+1)*b8:=by rw[Nat.succ_mul]
        _≤l.length*b8:=Nat.mul_le_mul_right _ hi
      have p0:∀z∈(a.eval y).cells.toList,z.oneCell'=true:=by
       intro z eW
       obtain⟨j,au,rfl⟩:=List.getElem_of_mem eW
       have di:j<v.flat.length:=by simp at au;omega
       have dh:=bq j di
       have cH:bM (v.flat.getD j .undef)=true:=by
        rw[List.all_eq_true]at aP
        refine aP _ ?_
        rw[List.getD_eq_getElem?_getD,List.getElem?_eq_getElem di,Option.getD_some]
        exact List.getElem_mem di
       have:=(uv dh (by intro e;rw[e]at cH;cases cH) (by intro l e;rw[e]at cH;cases cH)).2
       rw[nU (by simpa using au)]at this
       simpa using this
      have cQ:=wO (P:=P) wS jG pa (off:=i*b8) (by omega) p0
      have eU:=setRow_heap w g' bo (bo.toList.take (i*b8)++(a.eval y).cells.toList++bo.toList.drop (i*b8+az P t)).toArray hK _ jG
      generalize cR:w.setRow g' (bo.toList.take (i*b8)++(a.eval y).cells.toList++bo.toList.drop (i*b8+az P t)).toArray=w' at cQ eU
      have ej:∀k,k≠g'→w'.heap[k]?=w.heap[k]?:=fun k ay=>by rw[←cR];exact setRow_other w g' k _ ay
      have hM:w'.heap.size=w.heap.size:=by rw[←cR];simp
      refine fin n4 cQ (J.c6 (G':=bl) aj wT bA (ch.refl _) rfl (fun k p ay arM aI fs=>⟨ej k ay,fun _=>rfl,fs⟩) (fun k j c ah=>?_) (fun k p arM=>by rw[hM];exact J.aX k p arM) bA ?_) (aa.cC.trans ⟨by rw[←cR];rfl,by rw[←cR];rfl,by rw[←cR];rfl,by rw[hM];exact Nat.le_refl _,fun k ay hm=>⟨ej k (by rintro rfl;exact hm _ bA trivial),rfl,fun _=>rfl⟩,fun _ _ _ e=>e,fun _ _ _=>rfl⟩)
      ·have gw:k≠g':=by rintro rfl;rw[sf]at ah;cases ah
       have:=J.cZ _ _ _ ah
       simp only[World.cell?,ej k gw]
       exact this
      ·refine⟨_,hK,eU,by rw[wP (by simp[pa]) (by omega),List.length_set];exact hlen,fun z eW=>?_,fun p q arM aE=>?_,a8⟩
       ·rcases List.mem_or_eq_of_mem_set eW with eW | rfl
        ·exact al z eW
        ·exact⟨df,List.all_eq_true.2 fun u hu=>uA (List.all_eq_true.1 aP u hu)⟩
       ·rw[List.length_set]at arM
        rw[zj (by simp[pa]) (by omega)]
        by_cases sn:p=i
        ·subst sn
         have aR:(l.set p v).getD p .undef=v:=by simp[List.getD_eq_getElem?_getD,arM]
         rw[if_pos (by omega),aR]
         have:=bq q (by omega)
         simpa[List.getD_eq_getElem?_getD,Array.getD_eq_getD_getElem?,show p*b8+q-p*b8=q by omega]using this
        ·have aR:(l.set i v).getD p .undef=l.getD p .undef:=by simp[List.getD_eq_getElem?_getD,List.getElem?_set,Ne.symm sn]
         have aY:¬(i*b8≤p*b8+q∧p*b8+q<i*b8+az P t):=by
          rintro⟨aT,a2⟩
          rcases Nat.lt_or_gt_of_ne sn with aL | mC
          ·have:=jE aL aE;omega
          ·have:=Nat.mul_le_mul_right b8 (show i+1≤p from mC)
           rw[Nat.succ_mul]at this
           omega
         rw[if_neg aY,aR]
         exact a6 p q arM aE
     ·cases arL
    ·cases arL
   ·cases arL
 ·cases arL
end Go.aB
namespace Go.aB
open Go
variable {P:Program} {G:bh} {s:ab} {a:Act} {w:World} {o:Oper}
variable {d:Option Nat} {ty:TypeId} {pos:String} {af:Array Edge} {gd:Option (Nat×Bool)}
def n5 (lv u i:Nat):bd→bd
 | .h4 l t c j=>if l=lv∧t=u∧c=i then .rs 0 j else .h4 l t c j
 | p=>p
theorem c7.tup {p:Nat→bd} {m:List V} {x:Value} (h:c7 G w p (.tup m) x):False:=br.tup (w:=w) (p:=p 0) h
theorem Nr {u i:Nat} {l:List V} {v:V} (h:Rel G s a w) (hu:s.t u=.tup l) (arL:l[i]?=some v):b5 P ⟨d,.extract (.tmp u) i,ty,pos,af,gd⟩ G s a w v (s.put u (.tup (l.set i .undef))):=by
 have J:=h.slot u
 rw[hu]at J
 obtain⟨vs,U,ai,a6⟩:=J
 have hi:i<l.length:=by
  rcases Nat.lt_or_ge i l.length with aZ | aZ
  ·exact aZ
  ·rw[List.getElem?_eq_none aZ]at arL;cases arL
 have wU:i<vs.size:=by omega
 have wV:l.getD i .undef=v:=by rw[List.getD_eq_getElem?_getD,arL];rfl
 have aa:=a6 i hi
 rw[wV]at aa
 have ar:c7 (G.bP (n5 s.lv u i)) w (bd.rs 0) v (vs.getD i Go.undef):=aa.bP _ fun j=>by simp[n5]
 refine⟨vs.getD i Go.undef,w,G.bP (n5 s.lv u i),?_,⟨h.size,h.defers,fun t=>?_,fun lv t ob cq=>?_,h.fC,h.cZ,lR h.aX⟩,c7.zf ar (fun m e=>by rw[e]at ar;exact ar.tup),o2 fun p=>?_⟩
 ·simp only[execOp,Act.eval,U]
  refine eN ?_
  simp[Instr.extract,wU,Array.getD]
 ·by_cases aK:t=u
  ·subst aK
   have:(s.put t (.tup (l.set i .undef))).t t=.tup (l.set i .undef):=by simp[ab.put,ae]
   rw[this]
   refine⟨vs,U,by simpa using ai,fun k ay=>?_⟩
   rw[List.length_set]at ay
   by_cases uD:k=i
   ·subst uD
    have:(l.set k .undef).getD k .undef=.undef:=by simp[List.getD_eq_getElem?_getD,ay]
    rw[this]
    exact aH.undef _
   ·have:(l.set i .undef).getD k .undef=l.getD k .undef:=by simp[List.getD_eq_getElem?_getD,List.getElem?_set,Ne.symm uD]
    rw[this]
    exact(a6 k ay).bP _ fun j=>by
     have:(ab.put s t (.tup (l.set i .undef))).lv=s.lv:=rfl
     simp[n5,uD,this]
  ·have:(s.put u (.tup (l.set i .undef))).t t=s.t t:=by simp[ab.put,ae,aK]
   rw[this]
   exact(h.slot t).bP _ fun c j=>by
    have:(ab.put s u (.tup (l.set i .undef))).lv=s.lv:=rfl
    simp[n5,aK,this]
 ·obtain⟨g,aq,aF,aW⟩:=h.obj lv t ob cq
  exact⟨g,aq,by rw[dw aF];rfl,aW.bP _ fun j=>rfl⟩
 ·cases p with
  | h4 bc t c j=>
    by_cases bj:bc=s.lv∧t=u∧c=i
    ·exact .inr (by rw[bj.1];exact Nat.le_refl _)
    ·exact .inl (by simp[n5,bj])
  | _=>exact .inl rfl
theorem Ns {u i:Nat} {l:List V} {v:V} (h:Rel G s a w) (hu:s.t u=.tup l) (arL:l[i]?=some v):b5 P ⟨d,.extract (.tmp u) i,ty,pos,af,gd⟩ G s a w v (s.put u (.tup (l.map V.view))):=by
 have J:=h.slot u
 rw[hu]at J
 obtain⟨vs,U,ai,a6⟩:=J
 have hi:i<l.length:=by
  rcases Nat.lt_or_ge i l.length with aZ | aZ
  ·exact aZ
  ·rw[List.getElem?_eq_none aZ]at arL;cases arL
 have wU:i<vs.size:=by omega
 have wV:l.getD i .undef=v:=by rw[List.getD_eq_getElem?_getD,arL];rfl
 have aa:=a6 i hi
 rw[wV]at aa
 have ar:c7 (G.bP (n5 s.lv u i)) w (bd.rs 0) v (vs.getD i Go.undef):=aa.bP _ fun j=>by simp[n5]
 refine⟨vs.getD i Go.undef,w,G.bP (n5 s.lv u i),?_,⟨h.size,h.defers,fun t=>?_,fun lv t ob cq=>?_,h.fC,h.cZ,lR h.aX⟩,c7.zf ar (fun m e=>by rw[e]at ar;exact ar.tup),o2 fun p=>?_⟩
 ·simp only[execOp,Act.eval,U]
  refine eN ?_
  simp[Instr.extract,wU,Array.getD]
 ·by_cases aK:t=u
  ·subst aK
   have:(s.put t (.tup (l.map V.view))).t t=.tup (l.map V.view):=by simp[ab.put,ae]
   rw[this]
   refine⟨vs,U,by simpa using ai,fun k ay=>?_⟩
   rw[List.length_map]at ay
   have aP:=a6 k ay
   have da:(l.map V.view).getD k .undef=(l.getD k .undef).view:=by
    rw[List.getD_eq_getElem?_getD,List.getD_eq_getElem?_getD,List.getElem?_map,List.getElem?_eq_getElem ay]
    rfl
   rw[da]
   exact c7.j3 (aP.view fun m e=>by rw[e]at aP;exact aP.tup) (V.pU _)
  ·have:(s.put u (.tup (l.map V.view))).t t=s.t t:=by simp[ab.put,ae,aK]
   rw[this]
   exact(h.slot t).bP _ fun c j=>by
    have:(ab.put s u (.tup (l.map V.view))).lv=s.lv:=rfl
    simp[n5,aK,this]
 ·obtain⟨g,aq,aF,aW⟩:=h.obj lv t ob cq
  exact⟨g,aq,by rw[dw aF];rfl,aW.bP _ fun j=>rfl⟩
 ·cases p with
  | h4 bc t c j=>
    by_cases bj:bc=s.lv∧t=u∧c=i
    ·exact .inr (by rw[bj.1];exact Nat.le_refl _)
    ·exact .inl (by simp[n5,bj])
  | _=>exact .inl rfl
theorem Nt {off:Nat} {v cs:Array Value} (h:off+v.size≤cs.size):(v.zipIdx.foldl (fun cs (x:Value×Nat)=>cs.setIfInBounds (off+x.2) x.1) cs).size=cs.size∧∀k,(v.zipIdx.foldl (fun cs (x:Value×Nat)=>cs.setIfInBounds (off+x.2) x.1) cs).getD k Go.undef=if off≤k∧k<off+v.size then v.getD (k-off) Go.undef else cs.getD k Go.undef:=by
 have e:v.zipIdx.foldl (fun cs (x:Value×Nat)=>cs.setIfInBounds (off+x.2) x.1) cs=(v.toList.zipIdx 0).foldl (fun cs (x:Value×Nat)=>cs.setIfInBounds (off+x.2) x.1) cs:=by
  rw[←Array.foldl_toList,Array.toList_zipIdx]
 rw[e]
 obtain⟨J,aa⟩:=Great.foldl_set off v.toList 0 cs
 refine⟨J,fun k=>?_⟩
 rw[Array.getD_eq_getD_getElem?,aa k,Nat.add_zero,Array.length_toList]
 by_cases ay:off≤k∧k<off+v.size
 ·rw[if_pos ⟨ay.1,ay.2,by omega⟩,if_pos ay]
  simp[Array.getD_eq_getD_getElem?]
 ·rw[if_neg (fun e=>ay ⟨e.1,e.2.1⟩),if_neg ay]
  simp[Array.getD_eq_getD_getElem?]
def zm (off:Nat):bd→bd
 | .rs 0 j=>.rs 1 (off+j)
 | p=>p
theorem Rel.Gb (h:Rel G s a w) (f:bd→bd) (aJ:∀p,(∀c j,p≠.rs c j)→f p=p):Rel (G.bP f) s a w∧Fr s.lv G w (G.bP f) w:=by
 refine⟨⟨h.size,h.defers,fun t=>(h.slot t).bP _ fun c j=>aJ _ (fun _ _ e=>by cases e),fun lv t ob cq=>?_,h.fC,h.cZ,lR h.aX⟩,o2 fun p=>?_⟩
 ·obtain⟨g,aq,aF,aW⟩:=h.obj lv t ob cq
  exact⟨g,aq,by rw[dw aF,aJ _ (fun _ _ e=>by cases e)],aW.bP _ fun j=>aJ _ (fun _ _ e=>by cases e)⟩
 ·cases p with
  | rs c j=>exact .inr trivial
  | _=>exact .inl (aJ _ (fun _ _ e=>by cases e))
theorem Nu (bW:Array Field) (p3:List (Nat×Nat)) (arM:∀(i:Nat) (f:Field),bW[i]?=some f→p3.toArray[i]?=some (f.offset,az P f.type)):∀(ps:List (Nat×Operand)) {G:bh} {s s1:ab} {cs jH:List V} {ccs:Array Value},Rel G s a w→cs.length=ccs.size→
 (∀j,j<cs.length→br G w (.rs 1 j) (cs.getD j .undef) (ccs.getD j Go.undef))→jg P bW s cs ps=some (jH,s1)→
 ∃p4 bl,Instr.fill (p3.toArray[·]?) ccs (ps.map fun p=>(p.1,a.eval p.2))=some p4∧Rel bl s1 a w∧Fr s.lv G w bl w∧s1.lv=s.lv∧jH.length=p4.size∧∀j,j<jH.length→br bl w (.rs 1 j) (jH.getD j .undef) (p4.getD j Go.undef):=by
 intro ps
 induction ps with
 | nil=>
   intro G s s1 cs jH ccs h ai ah ad
   simp only[jg,Option.some.injEq,Prod.mk.injEq]at ad
   obtain⟨rfl,rfl⟩:=ad
   exact⟨ccs,G,rfl,h,Fr.refl _ _ _,rfl,ai,ah⟩
 | cons p ps ag=>
   intro G s s1 cs jH ccs h ai ah ad
   obtain⟨i,x⟩:=p
   simp only[jg]at ad
   split at ad
   ·rename_i f aJ
    split at ad
    ·rename_i ct
     obtain⟨aC,hle⟩:=ct
     obtain⟨bl,J,aa,ar,aP,bf,b4⟩:=h.all P f.type x
     have so:s.all P f.type x≠.undef∧(∀l,s.all P f.type x≠.tup l)∧jg P bW (s.drop x) (eg cs f.offset (s.all P f.type x).flat) ps=some (jH,s1):=by
      split at ad
      ·cases ad
      ·cases ad
      ·rename_i dh cH
       exact⟨fun e=>cH e,fun l e=>dh l e,ad⟩
     obtain⟨hu,aK,ad⟩:=so
     obtain⟨bt,bq⟩:=(aa.qU aK).cells hu aK
     obtain⟨cd,dS⟩:=J.Gb (zm f.offset) (fun p arM=>by cases p<;>first | rfl | exact absurd rfl (arM _ _))
     have en:(a.eval x).cells.size=az P f.type:=by omega
     have Gc:=Nt (off:=f.offset) (v:=(a.eval x).cells) (cs:=ccs) (by omega)
     obtain⟨p4,bN,aq,aF,aW,ck,ek,hO⟩:=ag (ccs:=(a.eval x).cells.zipIdx.foldl (fun cs (x:Value×Nat)=>cs.setIfInBounds (f.offset+x.2) x.1) ccs) cd (by rw[nW _ _ _ hle,Gc.1];exact ai) (fun j au=>by
      rw[nW _ _ _ hle]at au
      rw[asb _ _ _ _ hle,Gc.2 j,en,aC]
      by_cases dr:f.offset≤j∧j<f.offset+az P f.type
      ·rw[if_pos dr,if_pos dr]
       exact(bq (j-f.offset) (by omega)).bP _ (by simp only[zm];congr 1;omega)
      ·rw[if_neg dr,if_neg dr]
       refine(ah j au).mono (p':=.rs 1 j) ⟨fun g i c e=>by show bl.S g i=some c;rw[bf];exact e,fun l t g e=>by show bl.β l t=some g;rw[b4];exact e⟩ (fun g av=>⟨rfl,fun i=>by show bl.S g i=_;rw[bf],?_⟩)
       rw[dw (aP _ _ _ av)];rfl) ad
     refine⟨p4,bN,?_,aF,?_,ck.trans (nc x),ek,hO⟩
     ·simp only[List.map_cons,Instr.fill]
      rw[arM i f aJ]
      simp only
      have:((a.eval x).cells.size≠az P f.type||decide (f.offset+(a.eval x).cells.size>ccs.size))=false:=by
       simp only[ne_eq,en,not_true_eq_false,decide_false,Bool.false_or,decide_eq_false_iff_not]
       omega
      rw[if_neg (by rw[this];simp)]
      exact aq
     ·have:=aW
      rw[nc]at this dS
      exact(ar.trans dS).trans this
    ·cases ad
   ·cases ad
theorem Nv (bW:List Field) (h:bW.all (fun f=>az P f.type != 0)=true):∃p3,bW.mapM (fun f=>(P.info? f.type).map fun i=>(f.offset,i.size))=some p3∧∀(i:Nat) (f:Field),bW[i]?=some f→p3[i]?=some (f.offset,az P f.type):=by
 induction bW with
 | nil=>exact⟨[],rfl,fun i f aJ=>by cases aJ⟩
 | cons f bW ag=>
   simp only[List.all_cons,Bool.and_eq_true,bne_iff_ne,ne_eq]at h
   obtain⟨p3,J,aa⟩:=ag h.2
   obtain⟨i,d,g1,g2,g3,g4⟩:=lS h.1
   refine⟨(f.offset,i.size)::p3,by simp[List.mapM_cons,g1,J],fun k eP aJ=>?_⟩
   cases k with
   | zero=>simp only[List.getElem?_cons_zero,Option.some.injEq]at aJ⊢;subst aJ;rw[g3]
   | succ k=>exact aa k eP (by simpa using aJ)
def Gd:bd→bd
 | .rs 1 j=>.rs 0 j
 | .rs 0 j=>.rs 2 j
 | p=>p
theorem Nw {t:TypeId} {bW:Array Field} {z jH:List V} {ps:Array (Nat×Operand)} {s1:ab} (h:Rel G s a w) (hu:P.underlying t=some (.struct bW)) (aD:zero P t=some z) (aJ:bW.toList.all (fun f=>az P f.type != 0)=true)
 (ad:jg P bW s z ps.toList=some (jH,s1)):b5 P ⟨d,.build t ps,ty,pos,af,gd⟩ G s a w (.agg jH) s1:=by
 obtain⟨p3,cB,dJ⟩:=Nv bW.toList aJ
 obtain⟨cY,hP,z2,z3,_⟩:=se aD
 obtain⟨p4,bl,aq,aF,aW,ck,ek,hO⟩:=Nu (P:=P) (w:=w) bW p3 (fun i f aJ=>by have:=dJ i f (by simpa using aJ);simpa using this) ps.toList h z2 (fun j au=>uu (z3 j au) _) ad
 obtain⟨cd,dS⟩:=aF.Gb Gd (fun p arM=>by cases p<;>first | rfl | exact absurd rfl (arM _ _))
 rw[ck]at dS
 refine⟨.agg p4,w,bl.bP Gd,?_,cd,⟨p4,rfl,ek,fun j au=>(hO j au).bP _ rfl⟩,aW.trans dS⟩
 simp only[execOp]
 refine eN ?_
 obtain⟨it,Cg,nY⟩:∃it,P.info? t=some it∧it.zero=some cY:=by
  have:=hP default
  simp only[zeroValue,Sem.run_bind,typeInfo,run_program,Result.andThen_ok]at this
  cases bj:P.info? t with
  | none=>simp[bj]at this
  | some it=>
    simp only[bj,Sem.run_pure,Result.andThen_ok]at this
    cases n6:it.zero with
    | none=>simp[n6]at this
    | some y=>simp[n6]at this;exact⟨it,rfl,by rw[n6,this]⟩
 refine run_build w t _ p4 ?_
 unfold Program.built
 simp only[Cg,hu,nY,cB]
 rw[←aq]
 congr 1
 simp
theorem Nx {t e:TypeId} {n:Nat} {z:List V} {ps:Array (Nat×Operand)} {vs:List V} {s1:ab} (h:Rel G s a w) (hu:P.underlying t=some (.array n e)) (aD:zero P t=some z) (ct:az P e≠0) (n1:z.length=n*az P e) (aj:m0 0 ps.toList=true) (aC:ps.size≤n)
 (aK:ab.trees P s (ps.toList.map fun p=>(e,p.2))=some (vs,s1)) (aJ:vs.all (fun v=>v.flat.length==az P e)=true):b5 P ⟨d,.build t ps,ty,pos,af,gd⟩ G s a w (.agg ((vs.map V.flat).flatten++(z.drop (vs.length*az P e)).map V.cM)) s1:=by
 obtain⟨bl,J,aa,ar,aP,bf,b4⟩:=B2 (t:=t) (n:=n) h ct aK aJ
 obtain⟨cY,hP,z2,z3,_⟩:=se aD
 obtain⟨it,Cg,nY⟩:∃it,P.info? t=some it∧it.zero=some cY:=by
  have:=hP default
  simp only[zeroValue,Sem.run_bind,typeInfo,run_program,Result.andThen_ok]at this
  cases bj:P.info? t with
  | none=>simp[bj]at this
  | some it=>
    simp only[bj,Sem.run_pure,Result.andThen_ok]at this
    cases n6:it.zero with
    | none=>simp[n6]at this
    | some y=>simp[n6]at this;exact⟨it,rfl,by rw[n6,this]⟩
 obtain⟨Ny,cy,g1,g2,g3,g4⟩:=lS ct
 have Nz:∀(l:List V),(∀v∈l,v.flat.length=az P e)→((l.map V.flat).flatten.length=l.length*az P e∧∀i j,i<l.length→j<az P e→(l.map V.flat).flatten.getD (i*az P e+j) .undef=(l.getD i .undef).flat.getD j .undef):=by
  intro l
  induction l with
  | nil=>intro _;exact⟨by simp,fun i j hi=>absurd hi (Nat.not_lt_zero _)⟩
  | cons v l ag=>
    intro arL
    obtain⟨i1,i2⟩:=ag (fun v NA=>arL v (List.mem_cons_of_mem _ NA))
    have uE:=arL v List.mem_cons_self
    refine⟨by simp only[List.map_cons,List.flatten_cons,List.length_append,i1,uE,List.length_cons,Nat.succ_mul];omega,fun i j hi au=>?_⟩
    simp only[List.map_cons,List.flatten_cons,List.getD_eq_getElem?_getD]
    cases i with
    | zero=>rw[Nat.zero_mul,Nat.zero_add,List.getElem?_append_left (by omega)];rfl
    | succ i=>
      rw[List.getElem?_append_right (by rw[Nat.succ_mul];omega),show(i+1)*az P e+j-v.flat.length=i*az P e+j by rw[Nat.succ_mul];omega]
      have:=i2 i j (by simpa using hi) au
      simpa[List.getD_eq_getElem?_getD]using this
 have fE:∀v∈vs,v.flat.length=az P e:=fun v arL=>by rw[List.all_eq_true]at aJ;simpa using aJ v arL
 obtain⟨f1,f2⟩:=Nz vs fE
 have p5:vs.length=ps.size:=ar
 have arZ:0<az P e:=by omega
 have hmul:vs.length*az P e≤n*az P e:=Nat.mul_le_mul_right _ (by omega)
 obtain⟨r,aI,BI,uF⟩:=Great.fill_dense arZ (ps.toList.map fun p=>a.eval p.2) 0 cY.cells bf (by simp only[Nat.zero_add,List.length_map,Array.length_toList];rw[←z2,n1];exact Nat.mul_le_mul_right _ aC)
 simp only[Nat.zero_add,List.length_map,Array.length_toList,Nat.zero_mul,Nat.sub_zero,Nat.zero_le,true_and]at uF
 have fo:r.size=n*az P e:=by rw[BI,←z2,n1]
 have Ge:((vs.map V.flat).flatten++(z.drop (vs.length*az P e)).map V.cM).length=n*az P e:=by
  rw[List.length_append,f1,List.length_map,List.length_drop,n1];omega
 refine⟨.agg r,w,bl,?_,J,bZ.fT (aH.agg _ _ (by rw[Ge,fo]) fun k ay=>?_),aa.cC⟩
 ·simp only[execOp]
  refine eN ?_
  refine run_build w t _ _ ?_
  unfold Program.built
  simp only[Cg,hu,nY,g1]
  have B1:(ps.map fun(i,x)=>(i,a.eval x)).toList=((ps.toList.map fun p=>a.eval p.2).zipIdx 0).map fun x=>(x.2,x.1):=by
   rw[Array.toList_map]
   exact FW a.eval ps.toList 0 aj
  rw[B1,←g3]
  exact aI
 ·rw[Ge]at ay
  have zn:=uF k
  by_cases dr:k<vs.length*az P e
  ·rw[if_pos (by rw[←p5];exact dr)]at zn
   have d1:k / az P e<vs.length:=Nat.div_lt_of_lt_mul (by rw[Nat.mul_comm];exact dr)
   have d2:k%az P e<az P e:=Nat.mod_lt _ arZ
   have d3:k / az P e*az P e+k%az P e=k:=by have:=Nat.div_add_mod k (az P e);rw[Nat.mul_comm]at this;exact this
   have aR:=f2 _ _ d1 d2
   rw[d3]at aR
   have bH:((vs.map V.flat).flatten++(z.drop (vs.length*az P e)).map V.cM).getD k .undef=(vs.map V.flat).flatten.getD k .undef:=by
    rw[List.getD_eq_getElem?_getD,List.getD_eq_getElem?_getD,List.getElem?_append_left (by rw[f1];exact dr)]
   rw[bH,aR]
   have:=aP.2.2 _ _ d1 d2
   rw[d3]at this
   have a7:r.getD k undef=(((ps.toList.map fun p=>a.eval p.2).flatMap fun v=>v.cells.toList).toArray).getD k undef:=by
    rw[Array.getD_eq_getD_getElem?,Array.getD_eq_getD_getElem?,zn,List.getElem?_toArray,Great.flat_get arZ _ bf]
   rw[a7]
   exact this
  ·rw[if_neg (by rw[←p5];exact dr)]at zn
   have bH:((vs.map V.flat).flatten++(z.drop (vs.length*az P e)).map V.cM).getD k .undef=(z.getD k .undef).cM:=by
    rw[List.getD_eq_getElem?_getD,List.getElem?_append_right (by rw[f1];omega),f1,List.getElem?_map,List.getElem?_drop,List.getD_eq_getElem?_getD]
    have:vs.length*az P e+(k-vs.length*az P e)=k:=by omega
    rw[this]
    cases z[k]?<;>rfl
   rw[bH]
   have a7:r.getD k undef=cY.cells.getD k undef:=by
    rw[Array.getD_eq_getD_getElem?,Array.getD_eq_getD_getElem?,zn]
   rw[a7]
   exact(uu (G:=bl) (w:=w) (z3 k (by rw[n1];exact ay)) (.rs 0 0)).view
end Go.aB
