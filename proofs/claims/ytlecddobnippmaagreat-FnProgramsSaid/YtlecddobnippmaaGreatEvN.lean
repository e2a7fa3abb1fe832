/- A region whose order is drawn. The whole. A run that comes to an end is a call that comes back. -/
import Derived.Test.YtlecddobnippmaaGreatEvM
set_option linter.unusedVariables false
set_option linter.unusedSimpArgs false
namespace Go.aB
open Go
variable {E:Env} {G:bh} {s:ab} {a:Act} {w:World} {all:Array Oper}
theorem Q3 {P:Program} {d:Option Nat} {ty:TypeId} {pos:String} {af:Array Edge} {gd:Option (Nat×Bool)} {u i:Nat} {l:List V} {v:V} (h:Rel G s a w) (hu:s.t u=.tup l) (arL:l[i]?=some v):b5 P ⟨d,.extract (.tmp u) i,ty,pos,af,gd⟩ G s a w v.view s:=by
 have J:=h.slot u
 rw[hu]at J
 obtain⟨vs,U,ai,a6⟩:=J
 have hi:i<l.length:=by
  rcases Nat.lt_or_ge i l.length with aZ | aZ
  ·exact aZ
  ·rw[List.getElem?_eq_none aZ]at arL;cases arL
 have wU:i<vs.size:=by omega
 have wV:l.getD i .undef=v:=by rw[List.getD_eq_getElem?_getD,arL];rfl
 have aa:=a6 i hi
 rw[wV]at aa
 refine b5.dg h (x:=vs.getD i Go.undef) ?_ (aa.view fun m e=>by rw[e]at aa;exact aa.tup)
 simp only[execOp,Act.eval,U]
 refine eN ?_
 simp[Instr.extract,wU,Array.getD]
theorem HO {n:Nat} (a8:pq E n) (eh:mF E) {i:Nat} {done d1:List (Nat×V)} {s1:ab} {o:Oper} (aj:all[i]?=some o) (h:c1 E (cA E n) all i s done=some (s1,d1)) (aI:Rel G s a w) (cL:ia s) {K:Act→World→Prop} {Q:Exit→Act→World→Prop}
 (gH:∀dG w' G',Rel G' s1 dG w'→bp s s1→Fr s.lv G w G' w'→K dG w'):if Region.wanted o (yielded all a.tmps)then o.wp E.P a w K Q∨(o.asks E.P a w∧LetsOut Q)else K (a.put o.dst undef) w:=by
 have zZ:stepG E n all o s=some s1→if Region.wanted o (yielded all a.tmps)then o.wp E.P a w K Q∨(o.asks E.P a w∧LetsOut Q)else K (a.put o.dst undef) w:=fun av=>HM a8 eh av aI cL gH
 have Q4:ha all o s=some false→s1=s.cV o.dst (.tup [])→stepG E n all o s=some s1:=by
  rintro av rfl
  unfold ha at av
  unfold stepG
  split at av
  ·cases av
  ·rename_i j want l6
   split at av
   ·rename_i b ad
    have:¬b=want:=by
     have:=Option.some.inj av
     simpa using this
    simp only[l6,ad]
    rw[if_neg this]
   ·rename_i ad
    simp only[l6,ad]
   ·cases av
 have De:ha all o s=some true→np E n o s=some s1→stepG E n all o s=some s1:=by
  intro av al
  unfold ha at av
  unfold stepG
  split at av
  ·rename_i l6
   simp only[l6]
   exact al
  ·rename_i j want l6
   split at av
   ·rename_i b ad
    have:b=want:=by
     have:=Option.some.inj av
     simpa using this
    simp only[l6,ad]
    rw[if_pos this]
    exact al
   ·cases av
   ·cases av
 have Q5:ha all o s=some true→Region.wanted o (yielded all a.tmps)=true:=by
  intro av
  unfold ha at av
  split at av
  ·rename_i l6
   unfold Region.wanted;rw[l6]
  ·rename_i j want l6
   split at av
   ·rename_i b ad
    have:=(Dd aI l6 ad).1 b rfl
    rw[this]
    exact Option.some.inj av
   ·cases av
   ·cases av
 unfold c1 at h
 rw[aj]at h
 dsimp only at h
 cases av:ha all o s with
 | none=>rw[av]at h;cases h
 | some g=>
   rw[av]at h
   cases g with
   | false=>
     dsimp only at h
     obtain⟨J,_⟩:=Prod.mk.inj (Option.some.inj h)
     exact zZ (Q4 av J.symm)
   | true=>
     dsimp only at h
     by_cases U:cl E.P (E.H s.f) o=true
     ·rw[if_pos U]at h
      by_cases aw:(fJ E.P o s&&fr s o)=true
      ·rw[if_pos aw]at h
       simp only[Bool.and_eq_true]at aw
       obtain⟨v,arL,he⟩:=Option.map_eq_some_iff.1 h
       obtain⟨rfl,_⟩:=Prod.mk.inj he
       by_cases hex:∃u i,o.op=.extract u i
       ·obtain⟨HP,j,dt⟩:=hex
        obtain⟨u,rfl⟩:∃u,HP=.tmp u:=by
         cases HP with
         | tmp u=>exact⟨u,rfl⟩
         | _=>
           exfalso
           unfold eb at arL
           rw[dt]at arL
           dsimp only at arL
           unfold bw at arL
           cases arL
        rw[if_pos (Q5 av)]
        left
        obtain⟨d,nq⟩:=CS U
        unfold eb at arL
        rw[dt]at arL
        dsimp only at arL
        split at arL
        ·rename_i l hu
         obtain⟨v0,uE,xu⟩:=Option.map_eq_some_iff.1 arL
         have aL:d<s.n:=by
          have:=aw.2
          unfold fr at this
          rw[nq]at this
          simpa using this
         have mB:gD (E.H s.f) o=[]:=by unfold gD;rw[dt]
         have l6:o.dst.getD 0=d:=by rw[nq];rfl
         rw[l6]at xu
         have gi:∀{x w'},(execOp a.eval ⟨o.dst,.extract (.tmp u) j,o.type,o.pos,o.after,o.guard⟩).run E.P w=.ok (.value x) w'→(execOp a.eval o).run E.P w=.ok (.value x) w':=fun J=>by
          rw[←dt]at J
          exact J
         by_cases z1:aG d (E.H s.f).own=true
         ·have so:v=if aG d (E.H s.f).c2 then v0.settle else v0:=by
           rw[←xu]
           unfold jz
           rw[if_pos z1]
          subst so
          clear xu
          have Df:=Ns (P:=E.P) (d:=o.dst) (ty:=o.type) (pos:=o.pos) (af:=o.after) (gd:=o.guard) (i:=j) aI hu uE
          have HQ:b5 E.P ⟨o.dst,.extract (.tmp u) j,o.type,o.pos,o.after,o.guard⟩ G s a w (if aG d (E.H s.f).c2 then v0.settle else v0) (s.put u (.tup (l.map V.view))):=by
           split
           ·exact Df.settle rfl
           ·exact Df
          clear Df
          generalize (if aG d (E.H s.f).c2 then v0.settle else v0)=v1 at HQ gH⊢
          obtain⟨x,w',bl,J,aa,ar,aP⟩:=HQ
          obtain⟨bN,cB,dJ,_⟩:=aa.put ar d aL
          have hv:ji (E.H s.f) o=[u]:=by unfold ji;rw[dt];dsimp only;rw[l6,if_pos z1]
          have l7:s.dR (E.H s.f) o v1=(s.put u (.tup (l.map V.view))).put d v1:=by
           unfold ab.dR
           rw[mB,hv,nq]
           unfold ab.put cW
           congr 1
           funext x
           unfold ae
           by_cases ra:x=d
           ·subst ra;simp
           ·have:¬d=x:=fun e=>ra e.symm
            simp only[Option.some.injEq,this,if_false,aG,ra]
            by_cases z6:x=u
            ·subst z6;simp[hu,V.cut,aG]
            ·simp[z6,aG]
          rw[l7]at gH
          unfold Oper.wp
          rw[gi J,Oper.upon_value]
          exact gH _ w' bN (by rw[nq];exact cB) (bp.trans (.put _ _ _) (.put _ _ _)) (aP.trans dJ)
         ·have so:v=v0.view:=by
           rw[←xu]
           unfold jz
           rw[if_neg z1]
          subst so
          clear xu
          obtain⟨x,w',bl,J,aa,ar,aP⟩:=Q3 (P:=E.P) (d:=o.dst) (ty:=o.type) (pos:=o.pos) (af:=o.after) (gd:=o.guard) (i:=j) aI hu uE
          obtain⟨bN,cB,dJ,_⟩:=aa.put ar d aL
          have hv:ji (E.H s.f) o=[]:=by unfold ji;rw[dt];dsimp only;rw[l6,if_neg z1]
          have l7:s.dR (E.H s.f) o v0.view=s.put d v0.view:=by rw[CR _ _ hv,mB,nq];rfl
          rw[l7]at gH
          unfold Oper.wp
          rw[gi J,Oper.upon_value]
          exact gH _ w' bN (by rw[nq];exact cB) (.put _ _ _) (aP.trans dJ)
        ·cases arL
       ·exact zZ (De av (Qh U aw.1 aw.2 arL fun u j e=>hex ⟨u,j,e⟩))
      ·rw[if_neg aw]at h;cases h
     ·rw[if_neg U]at h
      by_cases ai:dj (E.H s.f) o=true
      ·rw[if_pos ai]at h
       by_cases aw:fr s o=true
       ·rw[if_pos aw]at h
        obtain⟨v,arL,he⟩:=Option.map_eq_some_iff.1 h
        obtain⟨rfl,_⟩:=Prod.mk.inj he
        exact zZ (De av (Qs ai aw arL))
       ·rw[if_neg aw]at h;cases h
      ·rw[if_neg ai]at h
       split at h
       ·rename_i s2 J
        split at h
        ·obtain⟨rfl,_⟩:=Prod.mk.inj (Option.some.inj h)
         exact zZ (De av J)
        ·cases h
       ·cases h
theorem rb {listed:Array Bool} {i j:Nat} (h:i<listed.size):(listed.setIfInBounds i true).getD j false=(listed.getD j false||j==i):=by
 by_cases e:i=j
 ·subst e;simp[h]
 ·rw[getD_set_ne false e]
  have:(j==i)=false:=by simp;exact fun h=>e h.symm
  rw[this,Bool.or_false]
theorem Dg {n:Nat} (a8:pq E n) (eh:mF E) {H:Hint} {rank:Nat→Nat} {Q:Exit→Act→World→Prop}:∀(m:Nat) {c:List Nat} {listed:Array Bool} {G:bh} {s bb:ab} {a:Act} {w:World} {done:List (Nat×V)},c.length=m→gE E (cA E n) all c s done=some bb→Rel G s a w→ia s→E.H s.f=H→
 listed.size=all.size→(∀i,i∈c↔(i<all.size∧listed.getD i false=false))→c.Nodup→uW all listed→(∀i∈c,∀o,all[i]?=some o→∀e∈h2 o,e<all.size∧rank e<rank i)→c.Pairwise (Fit E H all)→(∀i∈c,pS H all i=true)→oj E H all done c→
 (∀dG w' G',Rel G' bb dG w'→bp s bb→Fr s.lv G w G' w'→Q .normal dG w')→wpAny E.P .any all Q m listed a w:=by
 intro m
 induction m with
 | zero=>
   intro c listed G s bb a w done hm h aI cL sR ct ah h7 fm mI uX pv uY e5
   obtain rfl:c=[]:=List.eq_nil_of_length_eq_zero hm
   obtain rfl:=Option.some.inj h
   refine⟨?_,e5 a w G aI (.refl _) (Fr.refl _ _ _)⟩
   refine List.eq_nil_iff_forall_not_mem.2 fun i hi=>?_
   rw[mem_ready]at hi
   obtain⟨bn,o,aj,_⟩:=hi
   have aL:=(Array.getElem?_eq_some_iff.1 aj).1
   have:i∈([]:List Nat):=(ah i).2 ⟨aL,by
    have e:i<listed.size:=by omega
    simp[e]at bn⊢;exact bn⟩
   cases this
 | succ m ag=>
   intro c listed G s bb a w done hm h aI cL sR ct ah h7 fm mI uX pv uY e5
   have Dh:∀i,i∈Region.ready .any all listed→i∈c∧∃o,all[i]?=some o∧∀e∈h2 o,listed.getD e false=true:=by
    intro i hi
    rw[mem_ready]at hi
    obtain⟨bn,o,aj,he⟩:=hi
    have aL:=(Array.getElem?_eq_some_iff.1 aj).1
    refine⟨(ah i).2 ⟨aL,by
     have e:i<listed.size:=by omega
     simp[e]at bn⊢;exact bn⟩,o,aj,fun e eT=>?_⟩
    obtain⟨cc,J,aa,rfl⟩:=HL eT
    exact he cc J aa
   refine⟨fun sS=>?_,fun i hi=>?_⟩
   ·
    exfalso
    have none:∀r i,i∈c→rank i≤r→False:=by
     intro r
     induction r with
     | zero=>
       intro i hi uF
       have:i∈Region.ready .any all listed:=by
        rw[mem_ready]
        obtain⟨aL,ot⟩:=(ah i).1 hi
        refine⟨?_,all[i],Array.getElem?_eq_getElem aL,fun e he ad=>?_⟩
        ·have e:i<listed.size:=by omega
         simp[e]at ot⊢;exact ot
        ·have:=(mI i hi _ (Array.getElem?_eq_getElem aL) _ (zY he ad)).2
         omega
       rw[sS]at this;cases this
     | succ r pw=>
       intro i hi uF
       obtain⟨aL,ot⟩:=(ah i).1 hi
       by_cases fE:∀e∈h2 all[i],listed.getD e false=true
       ·have:i∈Region.ready .any all listed:=by
         rw[mem_ready]
         refine⟨?_,all[i],Array.getElem?_eq_getElem aL,fun e he ad=>fE _ (zY he ad)⟩
         have e:i<listed.size:=by omega
         simp[e]at ot⊢;exact ot
        rw[sS]at this;cases this
       ·obtain⟨e,he,aY⟩:∃e,e∈h2 all[i]∧¬listed.getD e false=true:=Classical.byContradiction fun U=>fE fun e he=>Classical.byContradiction fun aA=>U ⟨e,he,aA⟩
        obtain⟨J,aa⟩:=mI i hi _ (Array.getElem?_eq_getElem aL) e he
        exact pw e ((ah e).2 ⟨J,by simpa using aY⟩) (by omega)
    obtain⟨i,hi⟩:∃i,i∈c:=by
     cases c with
     | nil=>cases hm
     | cons i c=>exact⟨i,List.mem_cons_self⟩
    exact none _ i hi (Nat.le_refl _)
   ·obtain⟨uZ,o,aj,ns⟩:=Dh i hi
    have aL:=(Array.getElem?_eq_some_iff.1 aj).1
    have jJ:i<listed.size:=by omega
    obtain⟨pre,post,rfl⟩:=List.append_of_mem uZ
    subst sR
    have sT:=List.pairwise_append.1 uX
    have xv:∀b,b∈pre++i::post→prec all all.size b i=false:=by
     intro b ad
     cases e:prec all all.size b i with
     | false=>rfl
     | true=>
       have:=Dc fm _ _ o aj ns e
       rw[((ah b).1 ad).2]at this;cases this
    have n0:∀b∈pre,Fit E (E.H s.f) all b i:=fun b ad=>sT.2.2 b ad i List.mem_cons_self
    have xw:∀b∈pre,(r2 E.P (E.H s.f) all b i||wy (E.H s.f) all b i)=true:=by
     intro b ad
     have:=n0 b ad
     unfold Fit tW at this
     rw[xv b (List.mem_append_left _ ad)]at this
     rw[Bool.false_or,Bool.and_eq_true]at this
     exact this.1
    have ss:=front pre (fun b ad=>⟨xw b ad,pv b (List.mem_append_left _ ad),xv b (List.mem_append_left _ ad)⟩)
     ((List.pairwise_append.2 ⟨sT.1,List.pairwise_singleton _ _,fun x U y aA=>by rw[List.mem_singleton.1 aA];exact n0 x U⟩:(pre++[i]).Pairwise (Fit E (E.H s.f) all)).imp fun h=>h.uV)
     (fun k v eT=>by
      obtain⟨iB,J,aa,ar⟩:=uY k v eT
      exact⟨iB,J,aa,fun b ad=>ar b (by
       rcases List.mem_append.1 ad with ad | ad
       ·exact List.mem_append_left _ ad
       ·rw[List.mem_singleton.1 ad];exact List.mem_append_right _ List.mem_cons_self)⟩) h
    obtain⟨⟨s1,d1⟩,J,aa⟩:=Option.bind_eq_some_iff.1 ss
    unfold wpOp
    rw[aj]
    dsimp only
    have hB:i∉pre++post:=by
     have:=List.perm_middle.nodup_iff.1 h7
     exact(List.nodup_cons.1 this).1
    have xx:(pre++post).Nodup:=(List.nodup_cons.1 (List.perm_middle.nodup_iff.1 h7)).2
    have ou:List.Sublist (pre++post) (pre++i::post):=List.Sublist.append (List.Sublist.refl _) (List.sublist_cons_self _ _)
    refine HO a8 eh aj J aI cL fun aT e2 bl cd aN f1=>?_
    refine ag (c:=pre++post) (listed:=listed.setIfInBounds i true) (s:=s1) (done:=d1) (by simp at hm⊢;omega) aa cd (aN.low cL) (by rw[aN.f]) (by simpa using ct) (fun j=>?_) xx (fun j Di au sU e he=>?_) (fun j au=>mI j (ou.subset au)) (uX.sublist ou) (fun j au=>pv j (ou.subset au)) ?_ fun dG w' G' hy xt eP=>e5 dG w' G' hy (aN.trans xt) (f1.trans (aN.lv▸eP))
    ·rw[rb jJ]
     have ar:=ah j
     constructor
     ·intro au
      obtain⟨aq,aF⟩:=ar.1 (ou.subset au)
      have:j≠i:=by rintro rfl;exact hB au
      exact⟨aq,by rw[aF];simpa using this⟩
     ·rintro⟨aq,aF⟩
      simp only[Bool.or_eq_false_iff,beq_eq_false_iff_ne]at aF
      have au:=ar.2 ⟨aq,aF.1⟩
      rcases List.mem_append.1 au with au | au
      ·exact List.mem_append_left _ au
      ·rcases List.mem_cons.1 au with au | au
       ·exact absurd au aF.2
       ·exact List.mem_append_right _ au
    ·rw[rb jJ]at au⊢
     rw[Bool.or_eq_true]at au
     rcases au with au | au
     ·rw[fm j Di au sU e he];rfl
     ·have jm:j=i:=by simpa using au
      subst jm
      rw[aj]at sU
      obtain rfl:=Option.some.inj sU
      rw[ns e he];rfl
    ·refine oj.step (fun k v eT=>?_) J fun x U ai b ad ob cq=>?_
     ·obtain⟨iB,ar,aP,bf⟩:=uY k v eT
      exact⟨iB,ar,aP,fun b ad=>bf b (ou.subset ad)⟩
     ·rw[aj]at U
      obtain rfl:=Option.some.inj U
      rcases List.mem_append.1 ad with ad | ad
      ·have fL:=xw b ad
       rcases Bool.or_eq_true _ _▸fL with fL | fL
       rotate_left
       ·rcases Bool.or_eq_true _ _▸fL with fL | fL
        ·obtain⟨_,_,_,_,_,_,_,_,_,_,_,_,aA,_⟩:=C4 fL
         rw[aj]at aA
         obtain rfl:=Option.some.inj aA
         simp[dj]at ai
        ·obtain⟨_,_,_,_,_,_,_,_,_,_,aA,_⟩:=C6 fL
         rw[aj]at aA
         obtain rfl:=Option.some.inj aA
         simp[dj]at ai
       obtain⟨x,y,bt,bq,_,cN,_⟩:=C2 fL
       rw[cq]at bt
       obtain rfl:=Option.some.inj bt
       rw[aj]at bq
       obtain rfl:=Option.some.inj bq
       refine List.all_eq_true.2 fun z aD=>?_
       have:=List.all_eq_true.1 cN z aD
       rw[mG]at this
       simp only[Bool.not_eq_true',Bool.or_eq_false_iff]at this⊢
       exact this.1
      ·exact((List.pairwise_cons.1 sT.2.1).1 b ad).held aj cq ai
def Dj (all:Array Oper) (K:List (Nat×Nat)) (x y:Nat):Prop:=∃p∈K,p.1=x∧(p.2=y∨prec all all.size p.2 y=true)
structure Inv2 (E:Env) (ev:ds) (all:Array Oper) (H:Hint) (K:List (Nat×Nat)) (c:List Nat) (listed:Array Bool) (s bb:ab) (done:List (Nat×V)):Prop where
 run:gE E ev all c s done=some bb
 mem:∀i,i∈c↔(i<all.size∧listed.getD i false=false)
 nt:c.Nodup
 fit:c.Pairwise fun x y=>Fit E H all x y∨Dj all K x y
 self:∀i∈c,pS H all i=true
 held:oj E H all done c
theorem HR.uV {E:Env} {H:Hint} {K:List (Nat×Nat)} {x y:Nat} (hw:∀p∈K,turns H all p.1=true) (h:Fit E H all x y∨Dj all K x y):Db H all x y:=by
 rcases h with h | ⟨p,h,rfl,_⟩
 ·exact h.uV
 ·have hw:=hw _ h
  intro o _ aj _ ai
  exfalso
  unfold turns at hw
  rw[aj]at hw
  dsimp only at hw
  rw[((Hy (H:=H) (o:=o) (P:=E.P)).2 ai).1]at hw
  cases hw
theorem Inv2.step {ev:ds} {K:List (Nat×Nat)} {c:List Nat} {listed:Array Bool} {s bb:ab} {done:List (Nat×V)} (ic:Inv2 E ev all (E.H s.f) K c listed s bb done) (hw:∀p∈K,turns (E.H s.f) all p.1=true) {i:Nat} {o:Oper} (uZ:i∈c) (aj:all[i]?=some o) (ns:∀e∈h2 o,listed.getD e false=true) (fm:uW all listed) (ct:listed.size=all.size) (u0:∀p∈K,p.2=i→listed.getD p.1 false=true) (u1:∀p∈K,listed.getD p.2 false=true→listed.getD p.1 false=true):
 ∃s1 d1 bJ,c1 E ev all i s done=some (s1,d1)∧Inv2 E ev all (E.H s1.f) K bJ (listed.setIfInBounds i true) s1 bb d1∧bJ.length+1=c.length∧(∀x∈bJ,x∈c∧x≠i):=by
 have aL:=(Array.getElem?_eq_some_iff.1 aj).1
 have jJ:i<listed.size:=by omega
 obtain⟨h,ah,h7,uX,pv,uY⟩:=ic
 obtain⟨pre,post,rfl⟩:=List.append_of_mem uZ
 have sT:=List.pairwise_append.1 uX
 have xv:∀dU,dU∈pre++i::post→prec all all.size dU i=false:=by
  intro dU ad
  cases e:prec all all.size dU i with
  | false=>rfl
  | true=>
    have:=Dc fm _ _ o aj ns e
    rw[((ah dU).1 ad).2]at this;cases this
 have n0:∀x∈pre,Fit E (E.H s.f) all x i:=fun x U=>by
  rcases sT.2.2 x U i List.mem_cons_self with h | h
  ·exact h
  ·obtain⟨p,arM,rfl,he⟩:=h
   have J:listed.getD p.1 false=true:=he.elim (u0 _ arM) fun he=>u1 _ arM (Dc fm _ _ o aj ns he)
   have aa:=((ah p.1).1 (List.mem_append_left _ U)).2
   rw[J]at aa
   cases aa
 have xw:∀b∈pre,(r2 E.P (E.H s.f) all b i||wy (E.H s.f) all b i)=true:=by
  intro b ad
  have:=n0 b ad
  unfold Fit tW at this
  rw[xv b (List.mem_append_left _ ad)]at this
  rw[Bool.false_or,Bool.and_eq_true]at this
  exact this.1
 have ss:=front pre (fun b ad=>⟨xw b ad,pv b (List.mem_append_left _ ad),xv b (List.mem_append_left _ ad)⟩)
  (List.pairwise_append.2 ⟨sT.1.imp fun h=>HR.uV hw h,List.pairwise_singleton _ _,fun x U y aA=>by rw[List.mem_singleton.1 aA];exact(n0 x U).uV⟩)
  (fun k v eT=>by
   obtain⟨iB,J,aa,ar⟩:=uY k v eT
   exact⟨iB,J,aa,fun b ad=>ar b (by
    rcases List.mem_append.1 ad with ad | ad
    ·exact List.mem_append_left _ ad
    ·rw[List.mem_singleton.1 ad];exact List.mem_append_right _ List.mem_cons_self)⟩) h
 obtain⟨⟨s1,d1⟩,J,aa⟩:=Option.bind_eq_some_iff.1 ss
 have hB:i∉pre++post:=by
  have:=List.perm_middle.nodup_iff.1 h7
  exact(List.nodup_cons.1 this).1
 have xx:(pre++post).Nodup:=(List.nodup_cons.1 (List.perm_middle.nodup_iff.1 h7)).2
 have ou:List.Sublist (pre++post) (pre++i::post):=List.Sublist.append (List.Sublist.refl _) (List.sublist_cons_self _ _)
 have aJ:=xr J
 refine⟨s1,d1,pre++post,J,⟨aa,fun j=>?_,xx,?_,?_,?_⟩,by simp;omega,fun x U=>⟨ou.subset U,fun e=>hB (e▸U)⟩⟩
 ·rw[rb jJ]
  have ar:=ah j
  constructor
  ·intro au
   obtain⟨aq,aF⟩:=ar.1 (ou.subset au)
   have:j≠i:=by rintro rfl;exact hB au
   exact⟨aq,by rw[aF];simpa using this⟩
  ·rintro⟨aq,aF⟩
   simp only[Bool.or_eq_false_iff,beq_eq_false_iff_ne]at aF
   have au:=ar.2 ⟨aq,aF.1⟩
   rcases List.mem_append.1 au with au | au
   ·exact List.mem_append_left _ au
   ·rcases List.mem_cons.1 au with au | au
    ·exact absurd au aF.2
    ·exact List.mem_append_right _ au
 ·rw[aJ];exact uX.sublist ou
 ·rw[aJ];exact fun j au=>pv j (ou.subset au)
 ·rw[aJ]
  refine oj.step (fun k v eT=>?_) J fun x U ai dU ad ob cq=>?_
  ·obtain⟨iB,ar,aP,bf⟩:=uY k v eT
   exact⟨iB,ar,aP,fun b ad=>bf b (ou.subset ad)⟩
  ·rw[aj]at U
   obtain rfl:=Option.some.inj U
   rcases List.mem_append.1 ad with ad | ad
   ·have fL:=xw dU ad
    rcases Bool.or_eq_true _ _▸fL with fL | fL
    rotate_left
    ·rcases Bool.or_eq_true _ _▸fL with fL | fL
     ·obtain⟨_,_,_,_,_,_,_,_,_,_,_,_,aA,_⟩:=C4 fL
      rw[aj]at aA
      obtain rfl:=Option.some.inj aA
      simp[dj]at ai
     ·obtain⟨_,_,_,_,_,_,_,_,_,_,aA,_⟩:=C6 fL
      rw[aj]at aA
      obtain rfl:=Option.some.inj aA
      simp[dj]at ai
    obtain⟨x,y,bt,bq,_,cN,_⟩:=C2 fL
    rw[cq]at bt
    obtain rfl:=Option.some.inj bt
    rw[aj]at bq
    obtain rfl:=Option.some.inj bq
    refine List.all_eq_true.2 fun z aD=>?_
    have:=List.all_eq_true.1 cN z aD
    rw[mG]at this
    simp only[Bool.not_eq_true',Bool.or_eq_false_iff]at this⊢
    exact this.1
   ·exact HR.uV hw ((List.pairwise_cons.1 sT.2.1).1 dU ad) o ob aj cq ai
theorem Q6 {c:List Nat} {listed:Array Bool} {rank:Nat→Nat} (ct:listed.size=all.size) (ah:∀i,i∈c↔(i<all.size∧listed.getD i false=false)) (mI:∀i∈c,∀o,all[i]?=some o→∀e∈h2 o,e<all.size∧rank e<rank i) {i:Nat} (hi:i∈c) (sS:Region.ready .any all listed=[]):False:=by
 have none:∀r i,i∈c→rank i≤r→False:=by
  intro r
  induction r with
  | zero=>
    intro i hi uF
    have:i∈Region.ready .any all listed:=by
     rw[mem_ready]
     obtain⟨aL,ot⟩:=(ah i).1 hi
     refine⟨?_,all[i],Array.getElem?_eq_getElem aL,fun e he ad=>?_⟩
     ·have e:i<listed.size:=by omega
      simp[e]at ot⊢;exact ot
     ·have:=(mI i hi _ (Array.getElem?_eq_getElem aL) _ (zY he ad)).2
      omega
    rw[sS]at this;cases this
  | succ r pw=>
    intro i hi uF
    obtain⟨aL,ot⟩:=(ah i).1 hi
    by_cases fE:∀e∈h2 all[i],listed.getD e false=true
    ·have:i∈Region.ready .any all listed:=by
      rw[mem_ready]
      refine⟨?_,all[i],Array.getElem?_eq_getElem aL,fun e he ad=>fE _ (zY he ad)⟩
      have e:i<listed.size:=by omega
      simp[e]at ot⊢;exact ot
     rw[sS]at this;cases this
    ·obtain⟨e,he,aY⟩:∃e,e∈h2 all[i]∧¬listed.getD e false=true:=Classical.byContradiction fun U=>fE fun e he=>Classical.byContradiction fun aA=>U ⟨e,he,aA⟩
     obtain⟨J,aa⟩:=mI i hi _ (Array.getElem?_eq_getElem aL) e he
     exact pw e ((ah e).2 ⟨J,by simpa using aY⟩) (by omega)
 exact none _ i hi (Nat.le_refl _)
def ov (E:Env) (ev:ds) (all:Array Oper) (H:Hint) (listed:Array Bool) (s bb:ab) (done:List (Nat×V)):List (Nat×Nat)→List Nat→List (Nat×Nat×List Nat)→Prop
 | K,c,[]=>Inv2 E ev all H K c listed s bb done
 | K,c,(a,b,cu)::r=>(a≠b∧turns H all a=true∧turns H all b=true∧a∈c∧b∈c)∧Inv2 E ev all H ((a,b)::K) c listed s bb done∧ov E ev all H listed s bb done ((b,a)::K) cu r
theorem Inv2.mono {ev:ds} {H:Hint} {K sV:List (Nat×Nat)} {c:List Nat} {listed:Array Bool} {s bb:ab} {done:List (Nat×V)} (h:Inv2 E ev all H K c listed s bb done) (gH:∀p∈K,listed.getD p.1 false=false→p∈sV):Inv2 E ev all H sV c listed s bb done:=
 ⟨h.run,h.mem,h.nt,h.fit.imp_of_mem fun {x y} U _ aZ=>aZ.imp id fun⟨p,aa,e,ar⟩=>⟨p,gH _ aa (by rw[e];exact((h.mem x).1 U).2),e,ar⟩,h.self,h.held⟩
theorem ov.mono {ev:ds} {H:Hint} {listed:Array Bool} {s bb:ab} {done:List (Nat×V)}:∀{alts:List (Nat×Nat×List Nat)} {K sV:List (Nat×Nat)} {c:List Nat},ov E ev all H listed s bb done K c alts→(∀p∈K,listed.getD p.1 false=false→p∈sV)→ov E ev all H listed s bb done sV c alts:=by
 intro alts
 induction alts with
 | nil=>exact fun h gH=>Inv2.mono h gH
 | cons x r ag=>
   intro K sV c h gH
   obtain⟨a,b,cu⟩:=x
   obtain⟨J,aa,ar⟩:=h
   have up:∀q:Nat×Nat,∀p∈q::K,listed.getD p.1 false=false→p∈q::sV:=fun q p arM ai=>by
    rcases List.mem_cons.1 arM with rfl | arM
    ·exact List.mem_cons_self
    ·exact List.mem_cons_of_mem _ (gH p arM ai)
   exact⟨J,aa.mono (up _),ag ar (up _)⟩
theorem ov.head {ev:ds} {H:Hint} {listed:Array Bool} {s bb:ab} {done:List (Nat×V)} {alts:List (Nat×Nat×List Nat)} {K:List (Nat×Nat)} {c:List Nat} (h:ov E ev all H listed s bb done K c alts):(∀i,i∈c↔(i<all.size∧listed.getD i false=false))∧c.Nodup:=by
 cases alts with
 | nil=>exact⟨Inv2.mem h,Inv2.nt h⟩
 | cons x r=>exact⟨h.2.1.mem,h.2.1.nt⟩
theorem ov.step {ev:ds} {listed:Array Bool} {s bb:ab} {done:List (Nat×V)} {i:Nat} {o:Oper} (jJ:i<all.size∧listed.getD i false=false) (aj:all[i]?=some o) (ns:∀e∈h2 o,listed.getD e false=true) (fm:uW all listed) (ct:listed.size=all.size):∀{alts:List (Nat×Nat×List Nat)} {K:List (Nat×Nat)} {c:List Nat},ov E ev all (E.H s.f) listed s bb done K c alts→(∀p∈K,turns (E.H s.f) all p.1=true)→(∀p∈K,p.2=i→listed.getD p.1 false=true)→(∀p∈K,listed.getD p.2 false=true→listed.getD p.1 false=true)→
 ∃s1 d1 bJ alts',c1 E ev all i s done=some (s1,d1)∧ov E ev all (E.H s1.f) (listed.setIfInBounds i true) s1 bb d1 K bJ alts':=by
 have HS:i<listed.size:=by omega
 have gone:(listed.setIfInBounds i true).getD i false=true:=by rw[rb HS];simp
 intro alts
 induction alts with
 | nil=>
   intro K c h hw u0 u1
   obtain⟨s1,d1,bJ,aq,aF,_,_⟩:=Inv2.step h hw ((Inv2.mem h i).2 jJ) aj ns fm ct u0 u1
   exact⟨s1,d1,bJ,[],aq,aF⟩
 | cons x r ag=>
   intro K c h hw u0 u1
   obtain⟨a,b,cu⟩:=x
   obtain⟨⟨xy,aO,ad,xz,HT⟩,aa,ar⟩:=h
   have HU:∀p∈(a,b)::K,listed.getD p.2 false=true→listed.getD p.1 false=true:=fun p arM e=>by
    rcases List.mem_cons.1 arM with rfl | arM
    ·rw[((aa.mem b).1 HT).2]at e;cases e
    ·exact u1 p arM e
   have HV:∀p∈(b,a)::K,listed.getD p.2 false=true→listed.getD p.1 false=true:=fun p arM e=>by
    rcases List.mem_cons.1 arM with rfl | arM
    ·rw[((aa.mem a).1 xz).2]at e;cases e
    ·exact u1 p arM e
   have HW:∀p∈(a,b)::K,turns (E.H s.f) all p.1=true:=fun p arM=>by
    rcases List.mem_cons.1 arM with rfl | arM
    ·exact aO
    ·exact hw p arM
   have HX:∀p∈(b,a)::K,turns (E.H s.f) all p.1=true:=fun p arM=>by
    rcases List.mem_cons.1 arM with rfl | arM
    ·exact ad
    ·exact hw p arM
   have HY:i≠b→∀p∈(a,b)::K,p.2=i→listed.getD p.1 false=true:=fun hi p arM e=>by
    rcases List.mem_cons.1 arM with rfl | arM
    ·exact absurd e.symm hi
    ·exact u0 p arM e
   have HZ:i≠a→∀p∈(b,a)::K,p.2=i→listed.getD p.1 false=true:=fun hi p arM e=>by
    rcases List.mem_cons.1 arM with rfl | arM
    ·exact absurd e.symm hi
    ·exact u0 p arM e
   have drop:∀y:Nat,∀p∈(i,y)::K,(listed.setIfInBounds i true).getD p.1 false=false→p∈K:=fun y p arM ai=>by
    rcases List.mem_cons.1 arM with rfl | arM
    ·rw[gone]at ai;cases ai
    ·exact arM
   by_cases z7:i=a
   ·subst z7
    obtain⟨s1,d1,bJ,aq,aF,_,_⟩:=aa.step HW xz aj ns fm ct (HY xy) HU
    exact⟨s1,d1,bJ,[],aq,aF.mono (drop b)⟩
   by_cases Dk:i=b
   ·subst Dk
    obtain⟨s1,d1,bJ,alts',aq,aF⟩:=ag ar HX (HZ z7) HV
    exact⟨s1,d1,bJ,alts',aq,aF.mono (drop a)⟩
   obtain⟨s1,d1,bJ,aq,aF,_,ck⟩:=aa.step HW ((aa.mem i).2 jJ) aj ns fm ct (HY Dk) HU
   obtain⟨s2,d2,Q7,alts',l1,gG⟩:=ag ar HX (HZ z7) HV
   rw[aq]at l1
   obtain⟨rfl,rfl⟩:=Prod.mk.inj (Option.some.inj l1)
   have aJ:=xr aq
   have stay:∀y,y∈c→y≠i→y∈bJ:=fun y aA aY=>by
    rw[aF.mem,rb HS]
    obtain⟨bt,bq⟩:=(aa.mem y).1 aA
    exact⟨bt,by rw[bq];simpa using aY⟩
   exact⟨s1,d1,bJ,(a,b,Q7)::alts',aq,⟨xy,by rw[aJ];exact aO,by rw[aJ];exact ad,stay a xz (fun e=>z7 e.symm),stay b HT (fun e=>Dk e.symm)⟩,aF,gG⟩
theorem Q8 {n:Nat} (a8:pq E n) (eh:mF E) {H:Hint} {rank:Nat→Nat} {Q:Exit→Act→World→Prop}:∀(m:Nat) {alts:List (Nat×Nat×List Nat)} {c:List Nat} {listed:Array Bool} {G:bh} {s bb:ab} {a:Act} {w:World} {done:List (Nat×V)},c.length=m→
 ov E (cA E n) all H listed s bb done [] c alts→Rel G s a w→ia s→E.H s.f=H→
 listed.size=all.size→uW all listed→(∀i,i<all.size→∀o,all[i]?=some o→∀e∈h2 o,e<all.size∧rank e<rank i)→
 (∀dG w' G',Rel G' bb dG w'→bp s bb→Fr s.lv G w G' w'→Q .normal dG w')→wpAny E.P .any all Q m listed a w:=by
 intro m
 induction m with
 | zero=>
   intro alts c listed G s bb a w done hm h aI cL sR ct fm mI e5
   cases alts with
   | nil=>exact Dg a8 eh (rank:=rank) 0 hm (Inv2.run h) aI cL sR ct (Inv2.mem h) (Inv2.nt h) fm (fun i hi=>mI i ((Inv2.mem h i).1 hi).1) ((Inv2.fit h).imp fun aZ=>aZ.elim id fun⟨_,aa,_⟩=>by cases aa) (Inv2.self h) (Inv2.held h) e5
   | cons x r=>
     obtain rfl:c=[]:=List.eq_nil_of_length_eq_zero hm
     cases h.1.2.2.2.1
 | succ m ag=>
   intro alts c listed G s bb a w done hm h aI cL sR ct fm mI e5
   cases alts with
   | nil=>exact Dg a8 eh (rank:=rank) (m+1) hm (Inv2.run h) aI cL sR ct (Inv2.mem h) (Inv2.nt h) fm (fun i hi=>mI i ((Inv2.mem h i).1 hi).1) ((Inv2.fit h).imp fun aZ=>aZ.elim id fun⟨_,aa,_⟩=>by cases aa) (Inv2.self h) (Inv2.held h) e5
   | cons x r=>
   obtain⟨jn,h7⟩:=h.head
   have Dh:∀i,i∈Region.ready .any all listed→i∈c∧∃o,all[i]?=some o∧∀e∈h2 o,listed.getD e false=true:=by
    intro i hi
    rw[mem_ready]at hi
    obtain⟨bn,o,aj,he⟩:=hi
    have aL:=(Array.getElem?_eq_some_iff.1 aj).1
    refine⟨(jn i).2 ⟨aL,by
     have e:i<listed.size:=by omega
     simp[e]at bn⊢;exact bn⟩,o,aj,fun e eT=>?_⟩
    obtain⟨cc,J,aa,rfl⟩:=HL eT
    exact he cc J aa
   refine⟨fun sS=>(Q6 ct jn (fun i hi=>mI i ((jn i).1 hi).1) h.1.2.2.2.1 sS).elim,fun i hi=>?_⟩
   obtain⟨uZ,o,aj,ns⟩:=Dh i hi
   have aL:=(Array.getElem?_eq_some_iff.1 aj).1
   have jJ:i<listed.size:=by omega
   subst sR
   unfold wpOp
   rw[aj]
   dsimp only
   have Q9:uW all (listed.setIfInBounds i true):=by
    intro j Di au sU e he
    rw[rb jJ]at au⊢
    rw[Bool.or_eq_true]at au
    rcases au with au | au
    ·rw[fm j Di au sU e he];rfl
    ·have jm:j=i:=by simpa using au
     subst jm
     rw[aj]at sU
     obtain rfl:=Option.some.inj sU
     rw[ns e he];rfl
   obtain⟨s1,d1,bJ,alts',aq,aF⟩:=h.step ((jn i).1 uZ) aj ns fm ct (fun p arM=>by cases arM) (fun p arM=>by cases arM) (fun p arM=>by cases arM)
   have aJ:=xr aq
   obtain⟨H0,xx⟩:=aF.head
   have hlen:bJ.length=m:=by
    have arM:(i::bJ).Perm c:=(List.perm_ext_iff_of_nodup (List.nodup_cons.2 ⟨fun dI=>by
     have:=((H0 i).1 dI).2
     rw[rb jJ]at this
     simp at this,xx⟩) h7).2 fun y=>by
     rw[List.mem_cons,H0,jn,rb jJ]
     by_cases aA:y=i
     ·subst aA
      exact⟨fun _=>(jn y).1 uZ,fun _=>.inl rfl⟩
     ·simp[aA]
    have:=arM.length_eq
    rw[List.length_cons]at this
    omega
   refine HO a8 eh aj aq aI cL fun aT e2 bl cd aN f1=>?_
   exact ag hlen (by rw[←aJ];exact aF) cd (aN.low cL) (by rw[aJ]) (by simpa using ct) Q9 mI fun dG w' G' hy xt eP=>e5 dG w' G' hy (aN.trans xt) (f1.trans (aN.lv▸eP))
theorem H2:∀(c seen:List Nat),wx all seen c=true→c.Nodup∧(∀i∈c,i∉seen)∧∀pre i post,c=pre++i::post→∃o,all[i]?=some o∧∀e∈h2 o,e∈seen∨e∈pre:=by
 intro c
 induction c with
 | nil=>intro seen _;exact⟨List.nodup_nil,fun i hi=>(by cases hi),fun pre i post h=>by cases pre<;>cases h⟩
 | cons i c ag=>
   intro seen h
   unfold wx at h
   simp only[Bool.and_eq_true,Bool.not_eq_true']at h
   obtain⟨⟨J,aa⟩,ar⟩:=h
   obtain⟨aq,aF,aW⟩:=ag (i::seen) ar
   have hi:i∉seen:=fun hm=>by rw[qa.2 hm]at aa;cases aa
   refine⟨List.nodup_cons.2 ⟨fun hm=>aF i hm List.mem_cons_self,aq⟩,fun j au=>?_,fun pre j post e=>?_⟩
   ·rcases List.mem_cons.1 au with rfl | au
    ·exact hi
    ·exact fun hm=>aF j au (List.mem_cons_of_mem _ hm)
   ·cases pre with
    | nil=>
      obtain⟨rfl,rfl⟩:=List.cons.inj e
      split at J
      ·rename_i o aj
       exact⟨o,aj,fun e he=>.inl (qa.1 (List.all_eq_true.1 J e he))⟩
      ·cases J
    | cons p pre=>
      obtain⟨rfl,cc⟩:=List.cons.inj e
      obtain⟨o,aj,he⟩:=aW pre j post cc
      refine⟨o,aj,fun e hm=>?_⟩
      rcases he e hm with h | h
      ·rcases List.mem_cons.1 h with rfl | h
       ·exact .inr List.mem_cons_self
       ·exact .inl h
      ·exact .inr (List.mem_cons_of_mem _ h)
theorem Ra {H:Hint}:∀{c:List Nat},y1 E.P H all c=true→c.Pairwise (Fit E H all)∧∀i∈c,pS H all i=true:=by
 intro c
 induction c with
 | nil=>intro _;exact⟨List.Pairwise.nil,fun i hi=>by cases hi⟩
 | cons a c ag=>
   intro h
   unfold y1 at h
   simp only[Bool.and_eq_true]at h
   obtain⟨⟨J,aa⟩,ar⟩:=h
   obtain⟨aq,aF⟩:=ag ar
   refine⟨List.pairwise_cons.2 ⟨fun i hi=>List.all_eq_true.1 aa i hi,aq⟩,fun i hi=>?_⟩
   rcases List.mem_cons.1 hi with rfl | hi
   ·exact J
   ·exact aF i hi
theorem Rel.drawn (h:Rel G s a w):Rel G s a {w with drawn:=w.drawn+1}:=⟨h.size,h.defers,fun t=>(h.slot t).mono (ch.refl _) (fun _ _ _ e=>⟨rfl,fun _=>rfl,e⟩),fun lv t ob aj=>by
 obtain⟨g,aT,a2,a3⟩:=h.obj lv t ob aj
 exact⟨g,aT,a2,a3.mono (ch.refl _) ⟨rfl,fun _=>rfl⟩ fun j k ay=>⟨rfl,fun _=>rfl,ay⟩⟩,h.fC,h.cZ,h.aX⟩
theorem Rb {n:Nat} (a8:pq E n) (eh:mF E) {c:List Nat} {bb:ab} {Q:Exit→Act→World→Prop} (gj:r3 E.P (E.H s.f) all c=true) (h:gE E (cA E n) all c s []=some bb) (aI:Rel G s a w) (cL:ia s)
 (e5:∀dG w' G',Rel G' bb dG w'→bp s bb→Fr s.lv G w G' w'→Q .normal dG w'):wpAny E.P .any all Q all.size (Array.replicate all.size false) a {w with drawn:=w.drawn+1}:=by
 unfold r3 at gj
 simp only[Bool.and_eq_true,beq_iff_eq]at gj
 obtain⟨⟨⟨J,aa⟩,ar⟩,aP⟩:=gj
 obtain⟨aq,_,aW⟩:=H2 c [] ar
 obtain⟨cB,dJ⟩:=Ra aP
 have jn:∀i,i∈c↔i<all.size:=by
  intro i
  constructor
  ·intro hi
   obtain⟨pre,post,e⟩:=List.append_of_mem hi
   obtain⟨o,aj,_⟩:=aW pre i post e
   exact(Array.getElem?_eq_some_iff.1 aj).1
  ·intro hi
   exact qa.1 (List.all_eq_true.1 aa i (List.mem_range.2 hi))
 refine Dg a8 eh (H:=E.H s.f) (rank:=fun i=>c.idxOf i) all.size J h aI.drawn cL rfl (by simp) (fun i=>?_) aq (fun j o au=>?_) (fun i hi o aj e he=>?_) cB dJ (fun k v hm=>by cases hm) fun dG w' G' hy aN eP=>e5 dG w' G' hy aN ⟨eP.os,eP.tape,eP.output,eP.size,eP.mq,eP.cZ,eP.outer⟩
 ·rw[jn]
  constructor
  ·intro hi;exact⟨hi,by simp[hi]⟩
  ·exact fun hi=>hi.1
 ·by_cases aL:j<all.size<;>simp[aL]at au
 ·obtain⟨pre,post,cc⟩:=List.append_of_mem hi
  obtain⟨iB,dA,U⟩:=aW pre i post cc
  rw[aj]at dA
  obtain rfl:=Option.some.inj dA
  rcases U e he with h | h
  ·cases h
  ·have hB:i∉pre:=by
    rw[cc]at aq
    have:=(List.nodup_append.1 aq).2.2
    exact fun hm=>this i hm i List.mem_cons_self rfl
   refine⟨(jn e).1 (by rw[cc];exact List.mem_append_left _ h),?_⟩
   show c.idxOf e<c.idxOf i
   rw[cc,List.idxOf_append,List.idxOf_append,if_pos h,if_neg hB]
   have:=List.idxOf_lt_length_of_mem h
   simp;omega
theorem Rc {H:Hint} {K:List (Nat×Nat)}:∀{c:List Nat},y2 E.P H all K c=true→(c.Pairwise fun x y=>Fit E H all x y∨Dj all K x y)∧∀i∈c,pS H all i=true:=by
 intro c
 induction c with
 | nil=>intro _;exact⟨List.Pairwise.nil,fun i hi=>by cases hi⟩
 | cons a c ag=>
   intro h
   unfold y2 at h
   simp only[Bool.and_eq_true]at h
   obtain⟨⟨J,aa⟩,ar⟩:=h
   obtain⟨aq,aF⟩:=ag ar
   refine⟨List.pairwise_cons.2 ⟨fun i hi=>?_,aq⟩,fun i hi=>?_⟩
   ·have:=List.all_eq_true.1 aa i hi
    rw[Bool.or_eq_true]at this
    refine this.imp id fun h=>?_
    unfold FG at h
    obtain⟨p,arM,he⟩:=List.any_eq_true.1 h
    simp only[Bool.and_eq_true,Bool.or_eq_true,beq_iff_eq]at he
    exact⟨p,arM,he.1,he.2⟩
   ·rcases List.mem_cons.1 hi with rfl | hi
    ·exact J
    ·exact aF i hi
theorem H3 {ev:ds} {K:List (Nat×Nat)} {c:List Nat} {s bb:ab} (gj:y3 E.P (E.H s.f) all K c=true) (h:gE E ev all c s []=some bb):c.length=all.size∧Inv2 E ev all (E.H s.f) K c (Array.replicate all.size false) s bb []∧∀i<all.size,∀o,all[i]?=some o→∀e∈h2 o,e<all.size∧c.idxOf e<c.idxOf i:=by
 unfold y3 at gj
 simp only[Bool.and_eq_true,beq_iff_eq]at gj
 obtain⟨⟨⟨J,aa⟩,ar⟩,aP⟩:=gj
 obtain⟨aq,_,aW⟩:=H2 c [] ar
 obtain⟨cB,dJ⟩:=Rc aP
 have jn:∀i,i∈c↔i<all.size:=by
  intro i
  constructor
  ·intro hi
   obtain⟨pre,post,e⟩:=List.append_of_mem hi
   obtain⟨o,aj,_⟩:=aW pre i post e
   exact(Array.getElem?_eq_some_iff.1 aj).1
  ·intro hi
   exact qa.1 (List.all_eq_true.1 aa i (List.mem_range.2 hi))
 refine⟨J,⟨h,fun i=>?_,aq,cB,dJ,fun k v hm=>by cases hm⟩,fun i hi o aj e he=>?_⟩
 ·rw[jn]
  constructor
  ·intro hi;exact⟨hi,by simp[hi]⟩
  ·exact fun hi=>hi.1
 ·have hi:=(jn i).2 hi
  obtain⟨pre,post,cc⟩:=List.append_of_mem hi
  obtain⟨iB,dA,U⟩:=aW pre i post cc
  rw[aj]at dA
  obtain rfl:=Option.some.inj dA
  rcases U e he with h | h
  ·cases h
  ·have hB:i∉pre:=by
    rw[cc]at aq
    have:=(List.nodup_append.1 aq).2.2
    exact fun hm=>this i hm i List.mem_cons_self rfl
   refine⟨(jn e).1 (by rw[cc];exact List.mem_append_left _ h),?_⟩
   rw[cc,List.idxOf_append,List.idxOf_append,if_pos h,if_neg hB]
   have:=List.idxOf_lt_length_of_mem h
   simp;omega
theorem Rd {ev:ds} {s bb:ab}:∀{alts:List (Nat×Nat×List Nat)} {K:List (Nat×Nat)} {c:List Nat} {r:ab},y4 E.P (E.H s.f) all K c alts=true→gE E ev all c s []=some bb→qR E ev all s bb alts=some r→r=bb∧c.length=all.size∧ov E ev all (E.H s.f) (Array.replicate all.size false) s bb [] K c alts∧∀i<all.size,∀o,all[i]?=some o→∀e∈h2 o,e<all.size∧c.idxOf e<c.idxOf i:=by
 intro alts
 induction alts with
 | nil=>
   intro K c r h aw aI
   obtain⟨J,aa,ar⟩:=H3 h aw
   exact⟨(Option.some.inj aI).symm,J,aa,ar⟩
 | cons x l ag=>
   intro K c r h aw aI
   obtain⟨a,b,cu⟩:=x
   unfold y4 at h
   simp only[Bool.and_eq_true,bne_iff_ne,ne_eq]at h
   obtain⟨⟨⟨⟨aO,ad⟩,xy⟩,J⟩,aa⟩:=h
   obtain⟨y,aR,Re⟩:=Option.bind_eq_some_iff.1 aI
   obtain⟨z,a7,Rf⟩:=Option.bind_eq_some_iff.1 Re
   unfold pT at a7
   split at a7
   rotate_left
   ·cases a7
   rename_i al
   subst al
   obtain⟨l1,i1,cd⟩:=H3 J aw
   obtain⟨bt,_,cN,_⟩:=ag aa aR Rf
   have inc:∀{x},turns (E.H s.f) all x=true→x∈c:=by
    intro x U
    unfold turns at U
    split at U
    ·rename_i o aj
     have aL:=(Array.getElem?_eq_some_iff.1 aj).1
     exact(i1.mem x).2 ⟨aL,by simp[aL]⟩
    ·cases U
   exact⟨bt,l1,⟨⟨xy,aO,ad,inc aO,inc ad⟩,i1,cN⟩,cd⟩
theorem Rg {n:Nat} (a8:pq E n) (eh:mF E) {c:List Nat} {alt:List (Nat×Nat×List Nat)} {bb:ab} {Q:Exit→Act→World→Prop} (gj:ar7 E.P (E.H s.f) all c alt=true) (h:jX E (cA E n) all c alt s=some bb) (aI:Rel G s a w) (cL:ia s)
 (e5:∀dG w' G',Rel G' bb dG w'→bp s bb→Fr s.lv G w G' w'→Q .normal dG w'):wpAny E.P .any all Q all.size (Array.replicate all.size false) a {w with drawn:=w.drawn+1}:=by
 cases alt with
 | nil=>exact Rb a8 eh gj h aI cL e5
 | cons x l=>
   obtain⟨s1,aR,h⟩:=Option.bind_eq_some_iff.1 h
   obtain⟨rfl,l1,i1,cd⟩:=Rd gj aR h
   exact Q8 a8 eh (rank:=fun i=>c.idxOf i) all.size l1 i1 aI.drawn cL rfl (by simp) (fun j o au=>by by_cases aL:j<all.size<;>simp[aL]at au) cd fun dG w' G' hy aN eP=>e5 dG w' G' hy aN ⟨eP.os,eP.tape,eP.output,eP.size,eP.mq,eP.cZ,eP.outer⟩
end Go.aB
namespace Go.aB
open Go
variable {E:Env} {G:bh} {s:ab} {a:Act} {w:World}
theorem Rh (m8:E.P.follows .mixedOrders=true) (eh:mF E):∀n,pq E n:=by
 intro n
 induction n with
 | zero=>intro cb s r h;simp[cA]at h
 | succ n ag=>
   intro cb s r h cL fn aJ qe G a w aI k ay b cs ad Dl
   have next:∀{its':List cJ} {bb:ab} {G':bh} {dG:Act} {w':World} {bI:List Item},cA E n its' bb=some r→Rel G' bb dG w'→bp s bb→Fr s.lv G w G' w'→k3 its' bI→Steps E.P (lone (b.at a k) cs w) (lone (b.at dG bI) cs w')→
    ∃x xA cC Dm,Steps E.P (lone (b.at a k) cs w) (lone cC cs xA)∧cC.fn=s.f∧cC.leaving E.P xA (.returned x)∧hA s.lv G w r.2 r.1 x xA Dm∧sD r.2:=by
    intro its' bb G' dG w' bI ec hy aN eP e4 cQ
    obtain⟨x,xA,cC,Dm,J,aa,ar,aP,bf⟩:=ag its' bb r ec (aN.low cL) fn (by rw[aN.f];exact aJ) (by rw[aN.r];exact qe) G' dG w' hy bI e4 b cs (by rw[aN.f];exact ad) Dl
    exact⟨x,xA,cC,Dm,cQ.trans J,aa.trans aN.f,ar,(aN.lv▸aP).pre eP,bf⟩
   rw[cA]at h
   cases cb with
   | nil=>
     cases ay
     unfold gv at h
     dsimp only at h
     split at h
     ·rename_i e
      split at e<;>cases e
     ·rename_i v o e
      split at e
      ·rename_i bF s1 arL
       obtain⟨rfl,rfl⟩:=Out.done.inj e
       obtain rfl:=Option.some.inj h
       obtain⟨x,G',J,aa⟩:=leaves (b:=b) (G':=G) aI aJ qe arL ad Dl
       exact⟨x,w,_,G',.one step_end,ad,J [],aa,HN arL cL⟩
      ·cases e
     ·cases h
     ·rename_i e
      split at e<;>cases e
     ·rename_i e
      split at e<;>cases e
   | cons i cb=>
     cases ay with
     | eZ id ay=>exact next (by simpa[gv]using h) aI (.refl _) (Fr.refl _ _ _) ay (.one step_inBlock)
     | jf c ay=>
       unfold gv at h
       dsimp only at h
       split at h
       ·rename_i aF s2 e
        split at e
        ·rename_i bb ah
         obtain⟨rfl,rfl⟩:=Out.go.inj e
         obtain⟨G',J,aa,ar⟩:=G9 aI cL ah
         exact next h J ar aa (.code c (.jf c ay)) (.one step_inLoop)
        ·cases e
       ·rename_i e;split at e<;>cases e
       ·cases h
       ·rename_i e;split at e<;>cases e
       ·rename_i e;split at e<;>cases e
     | code c ay=>
       rename_i k
       cases c with
       | skip=>exact next (by simpa[gv]using h) aI (.refl _) (Fr.refl _ _ _) ay (.one step_skip)
       | seq x y=>exact next (its':=.code x::.code y::cb) (by simpa[gv]using h) aI (.refl _) (Fr.refl _ _ _) (.code x (.code y ay)) (.one step_seq)
       | block id c=>exact next (its':=.code c::.eZ id::cb) (by simpa[gv]using h) aI (.refl _) (Fr.refl _ _ _) (.code c (.eZ id ay)) (.one step_block)
       | region id ops wB=>
         cases wB with
         | true=>
           have Ri:gv E (.code (.region id ops true)::cb) s=if ar7 E.P (E.H s.f) ops (ix (E.H s.f) id ops.size) (m4 (E.H s.f) id)then .draw ops (ix (E.H s.f) id ops.size) (m4 (E.H s.f) id) cb s else .fail:=by simp[gv]
           rw[Ri]at h
           by_cases gj:ar7 E.P (E.H s.f) ops (ix (E.H s.f) id ops.size) (m4 (E.H s.f) id)=true
           ·rw[if_pos gj]at h
            dsimp only at h
            split at h
            ·rename_i bb J
             have z8:=Rg (Q:=fun e dG w'=>e=.normal∧∃G',Rel G' bb dG w'∧bp s bb∧Fr s.lv G w G' w') ag eh gj J aI cL fun dG w' G' hy aN eP=>⟨rfl,G',hy,aN,eP⟩
             obtain⟨e,dG,w',⟨rfl,G',hy,aN,eP⟩,sj⟩:=wp_region_any (id:=id) m8 z8 b k cs
             exact next h hy aN eP ay sj
            ·cases h
           ·rw[if_neg gj]at h;cases h
         | false=>
           have aZ:cA E n (.ops ops.toList ops::cb) s=some r:=by simpa[gv]using h
           cases n with
           | zero=>simp[cA]at aZ
           | succ n=>
             obtain⟨bb,J,aa⟩:=P0 aZ
             have o3:=Hb (Nat.le_succ n) J
             have z8:wpOps E.P ops (fun e dG w'=>e=.normal∧∃G',Rel G' bb dG w'∧bp s bb∧Fr s.lv G w G' w') (List.range' 0 ops.size) a w:=
              Q2 ag eh ops.size 0 (by omega) (by simpa using o3) aI cL fun dG w' G' hy aN eP=>⟨rfl,G',hy,aN,eP⟩
             rw[←List.range_eq_range']at z8
             obtain⟨e,dG,w',⟨rfl,G',hy,aN,eP⟩,sj⟩:=wp_ops (P:=E.P) _ a w z8 b k cs
             exact next (nQ E (Nat.le_succ n) aa) hy aN eP ay (.head step_region sj)
       | cond x c4 cu=>
         unfold gv at h
         dsimp only at h
         have U:=aI.aM E.P 0 x
         generalize s.aM E.P 0 x=u at h U
         cases u with
         | bool t=>
           have arL:=U.j5
           dsimp only at h
           cases t with
           | true=>exact next (its':=.code c4::cb) (by simpa using h) aI (.refl _) (Fr.refl _ _ _) (.code c4 ay) (.one (step_cond arL))
           | false=>exact next (its':=.code cu::cb) (by simpa using h) aI (.refl _) (Fr.refl _ _ _) (.code cu ay) (.one (step_cond arL))
         | _=>cases h
       | loop c=>
         have aZ:cA E n (.jf c::cb) s=some r:=by simpa[gv]using h
         cases n with
         | zero=>simp[cA]at aZ
         | succ n=>
           rw[cA]at aZ
           unfold gv at aZ
           dsimp only at aZ
           split at aZ
           ·rename_i aF s2 e
            split at e
            ·rename_i bb ah
             obtain⟨rfl,rfl⟩:=Out.go.inj e
             obtain⟨G',J,aa,ar⟩:=G9 aI cL ah
             exact next (nQ E (Nat.le_succ n) aZ) J ar aa (.code c (.jf c ay)) (.one step_loop)
            ·cases e
           ·rename_i e;split at e<;>cases e
           ·cases aZ
           ·rename_i e;split at e<;>cases e
           ·rename_i e;split at e<;>cases e
       | exit id=>
         unfold gv at h
         dsimp only at h
         cases U:jU id cb with
         | none=>rw[U]at h;cases h
         | some its'=>
           rw[U]at h
           obtain⟨bI,J,aa⟩:=ay.exit U
           exact next h aI (.refl _) (Fr.refl _ _ _) aa (.one (step_exit J))
       | ret=>
         have aZ:cA E n [] s=some r:=by simpa[gv]using h
         cases n with
         | zero=>simp[cA]at aZ
         | succ n=>
           rw[cA]at aZ
           unfold gv at aZ
           dsimp only at aZ
           split at aZ
           ·rename_i e
            split at e<;>cases e
           ·rename_i v o e
            split at e
            ·rename_i bF s1 arL
             obtain⟨rfl,rfl⟩:=Out.done.inj e
             obtain rfl:=Option.some.inj aZ
             obtain⟨x,G',J,aa⟩:=leaves (b:=b) (G':=G) aI aJ qe arL ad Dl
             exact⟨x,w,_,G',.one step_ret,ad,J _,aa,HN arL cL⟩
            ·cases e
           ·cases aZ
           ·rename_i e
            split at e<;>cases e
           ·rename_i e
            split at e<;>cases e
       | _=>simp[gv]at h
end Go.aB
namespace Go.aB
open Go Go.RowKit
variable {E:Env}
theorem Rj {G G':bh} {w w':World} {o:List (Nat→Option ax)} {v:V} {x:Value} (h:hA 0 {S:=G.S,β:=fun _ _=>none,aV:=fun _=>none} w o v x w' G'):Below w.heap.size w w':=
 ⟨h.cC.os,h.cC.tape,h.cC.output,h.cC.size,fun k ay=>(h.cC.mq k ay (fun p arM=>by cases arM)).1⟩
theorem Rk (m8:E.P.follows .mixedOrders=true) (eh:mF E) {f:Nat} {args:List V} {eo:Array Value} {w:World} {v:V} {o:List (Nat→Option ax)} (gi:run E f args []=some (v,o)) {S:Nat→Nat→Option Value} (a8:∀g j c,S g j=some c→w.cell? ⟨g,j,none⟩=some c) (ai:args.length=eo.size)
 (a6:∀i,i<args.length→aH S (fun _ _=>none) (args.getD i .undef) (eo.getD i Go.undef)):
 Calls E.P f eo w fun e w'=>∃x G',e=.returned x∧hA 0 {S:=S,β:=fun _ _=>none,aV:=fun _=>none} w o v x w' G':=by
 unfold run at gi
 cases bn:gZ E f args []with
 | none=>rw[bn]at gi;cases gi
 | some x=>
   obtain⟨cf,bE⟩:=x
   rw[bn]at gi
   obtain⟨n,aC⟩:=lP.1 gi
   refine(xa (G:={S:=S,β:=fun _ _=>none,aV:=fun _=>none}) (Rh m8 eh n) bn aC ai (fun i hi=>bZ.fT (a6 i hi)) (fun l t ob aj=>by cases aj) (fun l t g av=>by cases av) a8 (fun g p arM=>by cases arM) (fun l t ob aj=>by cases aj)).mono ?_
   rintro e w' ⟨x,G',he,aw,_⟩
   exact⟨x,G',he,aw⟩
theorem Rl (m8:E.P.follows .mixedOrders=true) (eh:mF E) {f:Nat} {args:List V} {eo:Array Value} {w:World} {o:List (Nat→Option ax)} (gi:run E f args []=some (.bool true,o)) (ai:args.length=eo.size)
 (a6:∀i,i<args.length→aH (fun g j=>w.cell? ⟨g,j,none⟩) (fun _ _=>none) (args.getD i .undef) (eo.getD i Go.undef)):
 Calls E.P f eo w fun e w'=>e=.returned (.bool true)∧Below w.heap.size w w':=by
 refine(Rk m8 eh gi (fun _ _ _ h=>h) ai a6).mono ?_
 rintro e w' ⟨x,G',rfl,aw⟩
 have:=(aw.own fun _ _=>none).j5
 subst this
 exact⟨rfl,Rj (G:={S:=fun g j=>w.cell? ⟨g,j,none⟩,β:=fun _ _=>none,aV:=fun _=>none}) aw⟩
end Go.aB
