/- Maps. Lists that nobody else sees: grown, settled, made objects. -/
import Derived.Test.YtlecddobnippmaaGreatEvE
import Derived.Test.YtlecddobnippmaaGreatEvD
set_option linter.unusedVariables false
set_option linter.unusedSimpArgs false
namespace Go.aB
open Go
variable {P:Program} {G:bh} {s:ab} {a:Act} {w:World} {o:Oper}
variable {d:Option Nat} {ty:TypeId} {pos:String} {af:Array Edge} {gd:Option (Nat×Bool)}
theorem Ch {b6:TypeDesc} (al:(∃k,b6=.int k)∨b6=.bool∨b6=.string) {t:TypeId} (aK:P.underlying t=some b6) (b:Bool) (n:Nat) (x:Value) (w:World):(Instr.checkKey b (n+1) t x).run P w=.ok () w:=by
 rcases al with⟨k,rfl⟩ | rfl | rfl<;>simp[Instr.checkKey,run_underlying aK]
theorem Gf {α:Type}:∀(l:List α) (f:α→PUnit→Sem (ForInStep PUnit)),(∀x∈l,∀(r:PUnit) (w:World),(f x r).run P w=.ok (.yield PUnit.unit) w)→∀w:World,(forIn l PUnit.unit f).run P w=.ok PUnit.unit w:=by
 intro l
 induction l with
 | nil=>intro f _ w;rfl
 | cons x l ag=>
   intro f h w
   simp only[List.forIn_cons,Sem.run_bind,h x List.mem_cons_self,Result.andThen_ok]
   exact ag f (fun y aA=>h y (List.mem_cons_of_mem _ aA)) w
theorem NB:∀(bW:List Field) (n:Nat) (l m:List V) (r:Bool),ku P n bW l m=some r→∀f∈bW,∃b6,P.underlying f.type=some b6∧((∃k,b6=.int k)∨b6=.bool∨b6=.string)∧f.offset<n+l.length:=by
 intro bW
 induction bW with
 | nil=>intro n l m r _ f aJ;cases aJ
 | cons g bW ag=>
   intro n l m r h f aJ
   cases l with
   | nil=>simp[ku]at h
   | cons b l=>
     cases m with
     | nil=>simp[ku]at h
     | cons c m=>
       simp only[ku]at h
       split at h
       ·rename_i av
        split at h
        ·rename_i b6 lU
         split at h
         ·rename_i p q arM aE
          rcases List.mem_cons.1 aJ with rfl | aJ
          ·exact⟨b6,lU,r9 arM,by simp[av.1]⟩
          ·obtain⟨NC,aq,aF,aW⟩:=ag (n+1) l m q aE f aJ
           exact⟨NC,aq,aF,by simp;omega⟩
         ·cases h
        ·cases h
       ·cases h
theorem ND {b6:TypeDesc}:∀(l m:List V) (r:Bool),mu b6 l m=some r→l≠[]→(∃k,b6=.int k)∨b6=.bool∨b6=.string:=by
 intro l m r h ai
 cases l with
 | nil=>exact absurd rfl ai
 | cons b l=>
   cases m with
   | nil=>simp[mu]at h
   | cons c m=>
     simp only[mu]at h
     split at h
     ·rename_i p q arM aE;exact r9 arM
     ·cases h
theorem NF {kt:TypeId} {k:V} {x:Value} (h:(ea P kt k k).isSome=true) (ay:aH G.S G.β k x) (b:Bool) (w:World) (bk:Nat):(Instr.checkKey b (bk+1+1) kt x).run P w=.ok () w:=by
 obtain⟨r,aI⟩:=Option.isSome_iff_exists.1 h
 unfold ea at aI
 split at aI
 ·rename_i bW hu
  split at aI
  ·split at aI
   ·rename_i l
    obtain⟨xs,rfl,ai,lV⟩:=ay.jB
    rw[Instr.checkKey]
    simp only[Sem.run_bind,run_underlying hu,Result.andThen_ok]
    rw[←Array.forIn_toList,Gf]
    ·rfl
    ·intro f aJ r w
     obtain⟨b6,aq,aF,aW⟩:=NB bW.toList 0 _ _ _ aI f aJ
     by_cases aC:f.name≠ "_"
     ·simp only[if_pos aC,Sem.run_bind,ub aF aq (show f.offset<xs.size by omega),Result.andThen_ok,Ch aF aq,Sem.run_pure]
     ·simp only[if_neg aC,Sem.run_pure]
   ·cases aI
  ·cases aI
 ·rename_i n e hu
  split at aI
  ·rename_i l
   split at aI
   ·rename_i ah
    split at aI
    ·rename_i b6 he
     obtain⟨xs,rfl,ai,lV⟩:=ay.jB
     obtain⟨i,d,g1,g2,g3,g4⟩:=lS (P:=P) (t:=e) (by omega)
     rw[Instr.checkKey]
     simp only[Sem.run_bind,run_underlying hu,Result.andThen_ok]
     simp only[Std.Legacy.Range.forIn_eq_forIn_range',Std.Legacy.Range.size,Nat.sub_zero,Nat.add_one_sub_one,Nat.div_one]
     rw[Gf]
     ·rfl
     ·intro j au r w
      have di:j<l.length:=by rw[List.mem_range']at au;omega
      have al:=ND _ _ _ aI (by rintro rfl;simp at di)
      simp only[Sem.run_bind,lT (P:=P) (t:=e) (by omega),Result.andThen_ok,ah.2,Nat.mul_one,ub al he (show j<xs.size by omega),Ch al he,Sem.run_pure]
    ·cases aI
   ·cases aI
  ·cases aI
 ·rename_i b6 _ _ hu
  exact Ch (r9 aI) hu _ _ _ _
 ·cases aI
theorem Gg {kt:TypeId} {k:V} {x:Value} (h:(ea P kt k k).isSome=true) (ay:aH G.S G.β k x) (b:Bool) (w:World):(Instr.checkKey b 10000 kt x).run P w=.ok () w:=NF h ay b w 9998
theorem NG {b6:TypeDesc} {x y:V} {r:Bool} {b c:Value} (h:kU b6 x y=some r) (U:aH G.S G.β x b) (aA:aH G.S G.β y c):(∃hy,Instr.sameNow b6 b c=some hy∧hy=r)∨Instr.sameNow b6 b c=none:=by
 unfold kU at h
 split at h
 ·split at h
  ·rename_i ay;subst ay
   obtain rfl:=Option.some.inj h
   rw[U.fD,aA.fD]
   exact .inl ⟨_,by simp[Instr.sameNow],rfl⟩
  ·cases h
 ·obtain rfl:=Option.some.inj h
  rw[U.j5,aA.j5]
  exact .inl ⟨_,rfl,rfl⟩
 ·obtain rfl:=Option.some.inj h
  rw[U.ky,aA.ky]
  exact .inl ⟨_,rfl,beq_toListBytes _ _⟩
 ·cases h
def sq (G:bh) (es:List (V×V)) (bo:List MapEntry):Prop:=es.length=bo.length∧∀(i:Nat) (e:V×V) (m:MapEntry),es[i]?=some e→bo[i]?=some m→aH G.S G.β e.1 m.key∧aH G.S G.β e.2 m.val
theorem sq.cons {e:V×V} {es:List (V×V)} {m:MapEntry} {bo:List MapEntry} (h:sq G (e::es) (m::bo)):aH G.S G.β e.1 m.key∧aH G.S G.β e.2 m.val∧sq G es bo:=
 ⟨(h.2 0 e m rfl rfl).1,(h.2 0 e m rfl rfl).2,by have:=h.1;simpa using this,fun i cc nR J aa=>h.2 (i+1) cc nR (by simpa using J) (by simpa using aa)⟩
def l0 (P:Program) (kt:TypeId) (k:V):List (V×V)→Nat→Option (Option (Nat×V))
 | [],_=>some none
 | e::es,i=>match ea P kt k e.1 with
   | some true=>some (some (i,e.2))
   | some false=>l0 P kt k es (i+1)
   | none=>none
theorem Gh {kt:TypeId} {k:V}:∀(es:List (V×V)) (i:Nat) (r:Option V),qL P kt k es=some r→∃q,l0 P kt k es i=some q∧q.map (·.2)=r:=by
 intro es
 induction es with
 | nil=>intro i r h;simp only[qL,Option.some.injEq]at h;subst h;exact⟨none,rfl,rfl⟩
 | cons e es ag=>
   intro i r h
   simp only[qL]at h
   split at h
   ·rename_i he
    obtain rfl:=Option.some.inj h
    exact⟨some (i,e.2),by simp[l0,he],rfl⟩
   ·rename_i he
    obtain⟨q,J,aa⟩:=ag (i+1) r h
    exact⟨q,by simp[l0,he,J],aa⟩
   ·cases h
theorem NH {kt:TypeId} {k:V} {x:Value} (ay:aH G.S G.β k x) (w:World):∀(es:List (V×V)) (bo:List MapEntry) (i:Nat) (q:Option (Nat×V)),sq G es bo→l0 P kt k es i=some q→
 ∃jI,(Instr.findAsking kt x bo i).run P w=.ok jI w∧(q=none→jI=none)∧∀j v,q=some (j,v)→i≤j∧∃m,bo[j-i]?=some m∧jI=some (j,m.val)∧aH G.S G.β v m.val:=by
 intro es
 induction es with
 | nil=>
   intro bo i q he h
   have:bo=[]:=List.eq_nil_of_length_eq_zero he.1.symm
   subst this
   simp only[l0,Option.some.injEq]at h
   subst h
   exact⟨none,rfl,fun _=>rfl,fun j v e=>by cases e⟩
 | cons e es ag=>
   intro bo i q he h
   cases bo with
   | nil=>have:=he.1;simp at this
   | cons m bo=>
     obtain⟨J,aa,ar⟩:=he.cons
     simp only[l0]at h
     split at h
     ·rename_i aE
      obtain rfl:=Option.some.inj h
      have aR:=uc aE ay J w
      refine⟨some (i,m.val),by simp[Instr.findAsking,aR],(fun e=>by cases e),fun j v e=>?_⟩
      cases e
      exact⟨Nat.le_refl _,m,by simp,rfl,aa⟩
     ·rename_i aE
      have aR:=uc aE ay J w
      obtain⟨jI,aq,aF,aW⟩:=ag bo (i+1) q ar h
      refine⟨jI,by simp[Instr.findAsking,aR,aq],aF,fun j v e=>?_⟩
      obtain⟨ck,nR,ek,hO,p6⟩:=aW j v e
      refine⟨by omega,nR,?_,hO,p6⟩
      rw[show j-i=(j-(i+1))+1 by omega,List.getElem?_cons_succ]
      exact ek
     ·cases h
theorem NI {kt:TypeId} {b6:TypeDesc} (hu:P.underlying kt=some b6) {k:V} {x:Value} (ay:aH G.S G.β k x):∀(es:List (V×V)) (bo:List MapEntry) (i:Nat) (q:Option (Nat×V)),sq G es bo→l0 P kt k es i=some q→
 Instr.findNow b6 x bo i=none∨∃jI,Instr.findNow b6 x bo i=some jI∧(q=none→jI=none)∧∀j v,q=some (j,v)→i≤j∧∃m,bo[j-i]?=some m∧jI=some (j,m.val)∧aH G.S G.β v m.val:=by
 intro es
 induction es with
 | nil=>
   intro bo i q he h
   have:bo=[]:=List.eq_nil_of_length_eq_zero he.1.symm
   subst this
   simp only[l0,Option.some.injEq]at h
   subst h
   exact .inr ⟨none,rfl,fun _=>rfl,fun j v e=>by cases e⟩
 | cons e es ag=>
   intro bo i q he h
   cases bo with
   | nil=>have:=he.1;simp at this
   | cons m bo=>
     obtain⟨J,aa,ar⟩:=he.cons
     simp only[l0]at h
     have Gi:∀r,ea P kt k e.1=some r→Instr.sameNow b6 x m.key=some r∨Instr.sameNow b6 x m.key=none:=by
      intro r aI
      unfold ea at aI
      rw[hu]at aI
      cases b6
      case struct=>cases x<;>cases m.key<;>exact .inr rfl
      case array=>cases x<;>cases m.key<;>exact .inr rfl
      all_goals
       rcases NG aI ay J with⟨hy,aT,rfl⟩ | aT
       ·exact .inl aT
       ·exact .inr aT
     split at h
     ·rename_i aE
      obtain rfl:=Option.some.inj h
      rcases Gi _ aE with aR | aR
      ·refine .inr ⟨some (i,m.val),by simp[Instr.findNow,aR],(fun e=>by cases e),fun j v e=>?_⟩
       cases e
       exact⟨Nat.le_refl _,m,by simp,rfl,aa⟩
      ·exact .inl (by simp[Instr.findNow,aR])
     ·rename_i aE
      rcases Gi _ aE with aR | aR
      ·rcases ag bo (i+1) q ar h with aq | ⟨jI,aq,aF,aW⟩
       ·exact .inl (by simp[Instr.findNow,aR,aq])
       ·refine .inr ⟨jI,by simp[Instr.findNow,aR,aq],aF,fun j v e=>?_⟩
        obtain⟨ck,nR,ek,hO,p6⟩:=aW j v e
        refine⟨by omega,nR,?_,hO,p6⟩
        rw[show j-i=(j-(i+1))+1 by omega,List.getElem?_cons_succ]
        exact ek
      ·exact .inl (by simp[Instr.findNow,aR])
     ·cases h
theorem Ci {kt:TypeId} {b6:TypeDesc} (hu:P.underlying kt=some b6) {k:V} {x:Value} (ay:aH G.S G.β k x) (w:World) (es:List (V×V)) (bo:List MapEntry) (q:Option (Nat×V)) (he:sq G es bo) (h:l0 P kt k es 0=some q):
 ∃jI,(Instr.findKey kt x bo).run P w=.ok jI w∧(q=none→jI=none)∧∀j v,q=some (j,v)→∃m,bo[j]?=some m∧jI=some (j,m.val)∧aH G.S G.β v m.val:=by
 obtain⟨bt,aT,a2,a3⟩:=NH (P:=P) ay w es bo 0 q he h
 rcases NI (P:=P) hu ay es bo 0 q he h with bU | ⟨bq,bU,cv,dn⟩
 ·refine⟨bt,?_,a2,fun j v e=>?_⟩
  ·simp only[Instr.findKey,Sem.run_bind,run_underlying hu,Result.andThen_ok,bU,aT]
  ·obtain⟨_,m,c4,cu,cS⟩:=a3 j v e;exact⟨m,by simpa using c4,cu,cS⟩
 ·refine⟨bq,?_,cv,fun j v e=>?_⟩
  ·simp only[Instr.findKey,Sem.run_bind,run_underlying hu,Result.andThen_ok,bU,Sem.run_pure]
  ·obtain⟨_,m,c4,cu,cS⟩:=dn j v e;exact⟨m,by simpa using c4,cu,cS⟩
theorem Gj {es:List (V×V)} {bo:Array MapEntry} (ai:es.length=bo.size) (a6:∀i,i<es.length→aH G.S G.β (es.getD i default).1 (bo.getD i default).key∧aH G.S G.β (es.getD i default).2 (bo.getD i default).val):sq G es bo.toList:=by
 refine⟨by simpa using ai,fun i e m J aa=>?_⟩
 have hi:i<es.length:=by
  rcases Nat.lt_or_ge i es.length with aZ | aZ
  ·exact aZ
  ·rw[List.getElem?_eq_none aZ]at J;cases J
 have ar:=a6 i hi
 have aR:es.getD i default=e:=by rw[List.getD_eq_getElem?_getD,J];rfl
 have a7:bo.getD i default=m:=by rw[Array.getD_eq_getD_getElem?,←Array.getElem?_toList,aa];rfl
 rw[aR,a7]at ar
 exact ar
theorem NJ {e:TypeId} {z:List V} (aD:zero P e=some z) (ah:z.length=1∨isAgg P e=true) (hu:(P.underlying e).isSome):∃cY,(∀w:World,(zeroValue e).run P w=.ok cY w)∧aH G.S G.β (pack (isAgg P e) z).view cY:=by
 obtain⟨cY,J,aa,ar,aP,bf⟩:=se aD
 refine⟨cY,J,?_⟩
 have ft:∀v (x:Value),agree v x=true→(∀l,v≠.agg l)∧(∀l,v≠.tup l):=by
  intro v x h
  unfold agree at h
  split at h
  all_goals first | (cases h;done) | exact⟨(fun l e=>by cases e),fun l e=>by cases e⟩
 cases aO:isAgg P e
 ·have b4:=bf aO
  rw[b4]at aa ar
  cases z with
  | nil=>simp at aa
  | cons v z=>
    have dh:=ar 0 (by simp)
    have cH:=ft _ _ dh
    simp only[List.getD_cons_zero]at dh cH
    have gk:=(uu (G:=G) (w:=default) dh (.rs 0 0)).view
    simp only[pack,Bool.false_eq_true,if_false,List.headD_cons]
    have:v.view=v.cM:=by
     cases v<;>first | rfl | exact absurd rfl (cH.1 _) | exact absurd rfl (cH.2 _)
    rw[this]
    exact gk
 ·obtain⟨cs,rfl⟩:=aP aO
  simp only[pack,if_true,V.view]
  refine aH.agg _ _ (by rw[List.length_map];exact aa) fun i hi=>?_
  rw[ar9]
  exact(uu (G:=G) (w:=default) (ar i (by simpa using hi)) (.rs 0 0)).view
theorem NK {m k:Operand} {t kt e:TypeId} {ok:Bool} {v:V} (h:Rel G s a w) (hu:P.underlying t=some (.map kt e)) (arL:yW P s t ok (s.aM P t m) (s.aM P kt k)=some v):b5 P ⟨d,.lookup t m k ok,ty,pos,af,gd⟩ G s a w v s:=by
 have J:=h.aM P t m
 have aa:=h.aM P kt k
 have NL:=ua s P kt k
 unfold yW at arL
 generalize s.aM P t m=fc at arL J
 generalize s.aM P kt k=nP at arL aa NL
 rw[hu]at arL
 split at arL
 ·rename_i NM cc lv u bj
  obtain⟨rfl,rfl⟩:kt=NM∧e=cc:=by cases bj;exact⟨rfl,rfl⟩
  split at arL
  ·rename_i es z aj aD
   split at arL
   ·rename_i ah
    obtain⟨p7,n1,NN,NO⟩:=ah
    obtain⟨g,av,bA,bo,kx,ad,ai,a8,arM,a6⟩:=h.obj lv u _ aj
    obtain⟨g',bT,U⟩:=J.BO
    obtain rfl:g'=g:=by rw[av]at bT;exact(Option.some.inj bT).symm
    have wW:=Gg (P:=P) p7 aa bo.isEmpty w
    obtain⟨b6,lU⟩:∃b6,P.underlying kt=some b6:=by
     cases bj:P.underlying kt with
     | none=>unfold ea at p7;rw[bj]at p7;cases p7
     | some b6=>exact⟨b6,rfl⟩
    have zo:=Gj ai a6
    obtain⟨Ny,de,gl,iy,n7,NP⟩:=lS (P:=P) (t:=e) (by omega)
    obtain⟨cY,p8,zp⟩:=NJ (G:=G) aD NO (by rw[iy];rfl)
    split at arL
    ·rename_i r aJ
     obtain rfl:=Option.some.inj arL
     obtain⟨q,asf,wX⟩:=Gh es 0 _ aJ
     obtain⟨jI,f1,f2,f3⟩:=Ci (P:=P) lU aa w es bo.toList q zo asf
     obtain⟨⟨j,hy⟩,rfl,rfl⟩:∃x,q=some x∧x.2=r:=by
      cases q with
      | none=>cases wX
      | some x=>exact⟨x,rfl,by simpa using wX⟩
     obtain⟨sr,bL,rfl,c8⟩:=f3 _ _ rfl
     have gi:(execOp a.eval ⟨d,.lookup t m k ok,ty,pos,af,gd⟩).run P w=.ok (.value (if ok=true then .tuple #[sr.val,.bool true]else sr.val)) w:=by
      simp only[execOp]
      refine eN ?_
      simp[Instr.lookup,run_underlying hu,U,getObj,Sem.run,ad,wW,f1]
     cases ok
     ·exact b5.dg h gi c8
     ·refine⟨_,w,G,gi,h,⟨#[sr.val,.bool true],rfl,rfl,fun i hi=>?_⟩,Fr.refl _ _ _⟩
      match i,hi with
      | 0,_=>exact c7.fT c8
      | 1,_=>exact c7.fT (aH.bool _)
    ·cases arL
    ·rename_i aJ
     obtain rfl:=Option.some.inj arL
     obtain⟨q,asf,wX⟩:=Gh es 0 _ aJ
     obtain⟨jI,f1,f2,f3⟩:=Ci (P:=P) lU aa w es bo.toList q zo asf
     have:q=none:=by
      cases q with
      | none=>rfl
      | some x=>cases wX
     have e7:=f2 this
     subst e7
     have gi:(execOp a.eval ⟨d,.lookup t m k ok,ty,pos,af,gd⟩).run P w=.ok (.value (if ok=true then .tuple #[cY,.bool false]else cY)) w:=by
      simp only[execOp]
      refine eN ?_
      simp[Instr.lookup,run_underlying hu,U,getObj,Sem.run,ad,wW,f1,p8]
     cases ok
     ·exact b5.dg h gi zp
     ·refine⟨_,w,G,gi,h,⟨#[cY,.bool false],rfl,rfl,fun i hi=>?_⟩,Fr.refl _ _ _⟩
      match i,hi with
      | 0,_=>exact c7.fT zp
      | 1,_=>exact c7.fT (aH.bool _)
   ·cases arL
  ·cases arL
 ·cases arL
theorem Gk {b6:TypeDesc} {v u:V} {x y:Value} (h:kU b6 v u=some true) (arL:aH G.S G.β v x) (hu:aH G.S G.β u y) (n:Nat):Instr.sameBits n y x=true:=by
 unfold kU at h
 split at h
 ·split at h
  ·rename_i ay;subst ay
   rw[arL.fD,hu.fD]
   have:=Option.some.inj h
   rw[beq_iff_eq]at this
   subst this
   cases n<;>simp[Instr.sameBits]
  ·cases h
 ·rw[arL.j5,hu.j5]
  have:=Option.some.inj h
  rw[beq_iff_eq]at this
  subst this
  cases n<;>simp[Instr.sameBits]
 ·rename_i p q
  rw[arL.ky,hu.ky]
  have:=Option.some.inj h
  have aa:(q==p)=true:=by
   rw[beq_toListBytes]
   rw[beq_iff_eq]at this⊢
   exact this.symm
  cases n<;>exact aa
 ·cases h
theorem NQ {n:Nat}:∀(l k:List V) (xs ei:List Value),l.length=k.length→l.length=xs.length→k.length=ei.length→(∀i,i<l.length→∃b6,kU b6 (l.getD i .undef) (k.getD i .undef)=some true)→
 (∀i,i<l.length→aH G.S G.β (l.getD i .undef) (xs.getD i Go.undef))→(∀i,i<k.length→aH G.S G.β (k.getD i .undef) (ei.getD i Go.undef))→(ei.zip xs).all (fun(x,y)=>Instr.sameBits n x y)=true:=by
 intro l
 induction l with
 | nil=>
   intro k xs ei bn ai ay _ _ _
   have J:xs=[]:=List.eq_nil_of_length_eq_zero ai.symm
   subst J
   simp
 | cons b l ag=>
   intro k xs ei bn ai ay al U aA
   cases k with
   | nil=>simp at bn
   | cons c k=>
     cases xs with
     | nil=>simp at ai
     | cons x xs=>
       cases ei with
       | nil=>simp at ay
       | cons y ei=>
         have i1:=ag k xs ei (by simpa using bn) (by simpa using ai) (by simpa using ay) (fun i hi=>by simpa using al (i+1) (by simpa using hi)) (fun i hi=>by simpa using U (i+1) (by simpa using hi)) (fun i hi=>by simpa using aA (i+1) (by simpa using hi))
         obtain⟨b6,J⟩:=al 0 (by simp)
         have ad:=U 0 (by simp)
         have ah:=aA 0 (by simp)
         simp only[List.getD_cons_zero]at ad ah J
         simp only[List.zip_cons_cons,List.all_cons,i1,Bool.and_true]
         exact Gk J ad ah n
theorem NR:∀(bW:List Field) (n:Nat) (l m:List V),ku P n bW l m=some true→l.length=m.length∧∀i,i<l.length→∃b6,kU b6 (l.getD i .undef) (m.getD i .undef)=some true:=by
 intro bW
 induction bW with
 | nil=>intro n l m h;cases l<;>cases m<;>simp only[ku,reduceCtorEq]at h;exact⟨rfl,fun i hi=>absurd hi (Nat.not_lt_zero _)⟩
 | cons f bW ag=>
   intro n l m h
   cases l with
   | nil=>simp[ku]at h
   | cons b l=>
     cases m with
     | nil=>simp[ku]at h
     | cons c m=>
       simp only[ku]at h
       split at h
       ·split at h
        ·rename_i b6 lU
         split at h
         ·rename_i p q arM aE
          simp only[Option.some.injEq,Bool.and_eq_true]at h
          obtain⟨rfl,rfl⟩:=h
          obtain⟨i1,i2⟩:=ag (n+1) l m aE
          refine⟨by simp[i1],fun i hi=>?_⟩
          cases i with
          | zero=>exact⟨b6,arM⟩
          | succ i=>exact i2 i (by simpa using hi)
         ·cases h
        ·cases h
       ·cases h
theorem NS {b6:TypeDesc}:∀(l m:List V),mu b6 l m=some true→l.length=m.length∧∀i,i<l.length→∃b6,kU b6 (l.getD i .undef) (m.getD i .undef)=some true:=by
 intro l
 induction l with
 | nil=>intro m h;cases m<;>simp only[mu,reduceCtorEq]at h;exact⟨rfl,fun i hi=>absurd hi (Nat.not_lt_zero _)⟩
 | cons b l ag=>
   intro m h
   cases m with
   | nil=>simp[mu]at h
   | cons c m=>
     simp only[mu]at h
     split at h
     ·rename_i p q arM aE
      simp only[Option.some.injEq,Bool.and_eq_true]at h
      obtain⟨rfl,rfl⟩:=h
      obtain⟨i1,i2⟩:=ag m aE
      refine⟨by simp[i1],fun i hi=>?_⟩
      cases i with
      | zero=>exact⟨b6,arM⟩
      | succ i=>exact i2 i (by simpa using hi)
     ·cases h
theorem Gl (cs:Array Value) (i:Nat):cs.toList.getD i Go.undef=cs.getD i Go.undef:=by simp[List.getD_eq_getElem?_getD,Array.getD_eq_getD_getElem?]
theorem Gm {n:Nat} {l k:List V} {x y:Value} (ay:aH G.S G.β (.agg l) x) (hu:aH G.S G.β (.agg k) y) (h:l.length=k.length∧∀i,i<l.length→∃b6,kU b6 (l.getD i .undef) (k.getD i .undef)=some true):Instr.sameBits (n+1) y x=true:=by
 obtain⟨xs,rfl,ai,lV⟩:=ay.jB
 obtain⟨ei,rfl,hm,ud⟩:=hu.jB
 have:=NQ (n:=n) l k xs.toList ei.toList h.1 (by simpa using ai) (by simpa using hm) h.2 (fun i hi=>by rw[Gl];exact lV i hi) (fun i hi=>by rw[Gl];exact ud i hi)
 simp only[Instr.sameBits,Bool.and_eq_true,beq_iff_eq]
 exact⟨by omega,this⟩
theorem NT {kt:TypeId} {k u:V} {x y:Value} (h:ea P kt k u=some true) (ay:aH G.S G.β k x) (hu:aH G.S G.β u y):Instr.sameBits 10000 y x=true:=by
 unfold ea at h
 split at h
 ·split at h
  ·split at h
   ·exact Gm (n:=9999) ay hu (NR _ _ _ _ h)
   ·cases h
  ·cases h
 ·split at h
  ·split at h
   ·split at h
    ·exact Gm (n:=9999) ay hu (NS _ _ h)
    ·cases h
   ·cases h
  ·cases h
 ·exact Gk h ay hu _
 ·cases h
theorem NU {kt:TypeId} {k v:V}:∀(es nf:List (V×V)) (i:Nat),qM P kt k v es=some nf→∃q,l0 P kt k es i=some q∧(q=none→nf=es++[(k,v)])∧∀j u,q=some (j,u)→i≤j∧j-i<es.length∧nf=es.set (j-i) (k,v)∧ea P kt k (es.getD (j-i) default).1=some true:=by
 intro es
 induction es with
 | nil=>intro nf i h;simp only[qM,Option.some.injEq]at h;subst h;exact⟨none,rfl,fun _=>rfl,fun j u e=>by cases e⟩
 | cons e es ag=>
   intro nf i h
   simp only[qM]at h
   split at h
   ·rename_i he
    obtain rfl:=Option.some.inj h
    refine⟨some (i,e.2),by simp[l0,he],(fun e=>by cases e),fun j u au=>?_⟩
    cases au
    simp only[Nat.sub_self]
    exact⟨Nat.le_refl _,by simp,rfl,he⟩
   ·rename_i he
    obtain⟨NV,J,rfl⟩:=Option.map_eq_some_iff.1 h
    obtain⟨q,aa,ar,aP⟩:=ag NV (i+1) J
    refine⟨q,by simp[l0,he,aa],fun aE=>by rw[ar aE];rfl,fun j u au=>?_⟩
    obtain⟨aq,aF,aW,ck⟩:=aP j u au
    have:j-i=(j-(i+1))+1:=by omega
    rw[this]
    exact⟨by omega,by simpa using aF,by rw[aW];rfl,by simpa using ck⟩
   ·cases h
theorem Gn {m k x:Operand} {t:TypeId} {s1:ab} (h:Rel G s a w) (arL:tS P s t m k x=some s1) (op:Op) (dt:op=.mapUpdate t m k x∨op=.insert t m k x):wQ P ⟨d,op,ty,pos,af,gd⟩ G s a w s1:=by
 unfold tS at arL
 split at arL
 ·rename_i kt e hu
  split at arL
  ·rename_i nP s2 NW
   split at arL
   ·rename_i qN s3 NX
    obtain⟨bl,aT,a2,a3,a4,a5,ng⟩:=h.tree NW
    obtain⟨bN,bU,cv,dn,ed,gm,iz⟩:=aT.tree NX
    split at arL
    ·rename_i lv u qZ
     split at arL
     ·rename_i es aj
      split at arL
      ·rename_i p7
       obtain⟨nf,arM,rfl⟩:=Option.map_eq_some_iff.1 arL
       have pb:=cv.le.dg a3
       have hm:=bU.aM P t m
       rw[qZ]at hm
       obtain⟨g,av,bA,bo,kx,ad,ai,a8,wY,a6⟩:=bU.obj lv u _ aj
       obtain⟨g',bT,U⟩:=hm.BO
       obtain rfl:g'=g:=by rw[av]at bT;exact(Option.some.inj bT).symm
       obtain⟨b6,lU⟩:∃b6,P.underlying kt=some b6:=by
        cases bj:P.underlying kt with
        | none=>unfold ea at p7;rw[bj]at p7;cases p7
        | some b6=>exact⟨b6,rfl⟩
       have wW:=Gg (P:=P) p7 pb false w
       have zo:=Gj ai a6
       obtain⟨q,bt,bq,cN⟩:=NU es nf 0 arM
       obtain⟨jI,f1,f2,f3⟩:=Ci (P:=P) lU pb w es bo.toList q zo bt
       have cQ:=a2.trans cv
       have key:∃q0 wZ,(Instr.mapUpdate t (a.eval m) (a.eval k) (a.eval x)).run P w=.ok () {w with heap:=w.heap.setIfInBounds g' (.map q0 wZ)}∧nf.length=q0.size∧(∀z∈nf,z.1.flat.all bM=true∧z.2.flat.all bM=true)∧
        ∀i,i<nf.length→aH bN.S bN.β (nf.getD i default).1 (q0.getD i default).key∧aH bN.S bN.β (nf.getD i default).2 (q0.getD i default).val:=by
        cases q with
        | none=>
          have e7:=f2 rfl
          subst e7
          have NY:=bq rfl
          subst NY
          refine⟨bo.push {key:=a.eval k,val:=a.eval x,born:=kx},kx+1,?_,by simp[ai],fun z aD=>?_,fun i hi=>?_⟩
          ·simp[Instr.mapUpdate,run_underlying hu,U,getObj,setObj,Sem.run,ad,wW,f1]
          ·rcases List.mem_append.1 aD with aD | aD
           ·exact wY z aD
           ·rw[List.mem_singleton.1 aD];exact⟨a4,ed⟩
          ·by_cases dI:i<es.length
           ·have aR:(es++[(nP,qN)]).getD i default=es.getD i default:=by simp[List.getD_eq_getElem?_getD,List.getElem?_append_left dI]
            have a7:(bo.push {key:=a.eval k,val:=a.eval x,born:=kx}).getD i default=bo.getD i default:=by
             simp only[Array.getD_eq_getD_getElem?,Array.getElem?_push]
             rw[if_neg (by omega)]
            rw[aR,a7]
            exact a6 i dI
           ·have dE:i=es.length:=by simp at hi;omega
            subst dE
            have aR:(es++[(nP,qN)]).getD es.length default=(nP,qN):=by simp[List.getD_eq_getElem?_getD]
            have a7:(bo.push {key:=a.eval k,val:=a.eval x,born:=kx}).getD es.length default={key:=a.eval k,val:=a.eval x,born:=kx}:=by
             simp only[Array.getD_eq_getD_getElem?,Array.getElem?_push,ai,if_true,Option.getD_some]
            rw[aR,a7]
            exact⟨pb,dn⟩
        | some NZ=>
          obtain⟨j,Gp⟩:=NZ
          obtain⟨sr,bL,rfl,c8⟩:=f3 j Gp rfl
          obtain⟨_,au,rfl,aE⟩:=cN j Gp rfl
          simp only[Nat.sub_zero]at au aE
          have aqR:j<bo.size:=by omega
          have hold:=(a6 j au).1
          have N0:bo.getD j default=sr:=by rw[Array.getD_eq_getD_getElem?,←Array.getElem?_toList,bL];rfl
          have Gq:bo[j]?=some sr:=by rw[←Array.getElem?_toList];exact bL
          rw[N0]at hold
          have N1:=NT (P:=P) aE pb hold
          refine⟨bo.modify j fun e=>{e with key:=a.eval k,val:=a.eval x},kx,?_,by simp[ai],fun z aD=>?_,fun i hi=>?_⟩
          ·simp[Instr.mapUpdate,run_underlying hu,U,getObj,setObj,Sem.run,ad,wW,f1,Instr.keyThatStays,Gq,N1]
          ·rcases List.mem_or_eq_of_mem_set aD with aD | rfl
           ·exact wY z aD
           ·exact⟨a4,ed⟩
          ·rw[List.length_set]at hi
           simp only[Nat.sub_zero]
           by_cases w0:i=j
           ·subst w0
            have aR:(es.set i (nP,qN)).getD i default=(nP,qN):=by simp[List.getD_eq_getElem?_getD,hi]
            have a7:(bo.modify i fun e=>{e with key:=a.eval k,val:=a.eval x}).getD i default={sr with key:=a.eval k,val:=a.eval x}:=by
             simp only[Array.getD_eq_getD_getElem?,Array.getElem?_modify,if_true,Gq,Option.map_some,Option.getD_some]
            rw[aR,a7]
            exact⟨pb,dn⟩
           ·have aR:(es.set j (nP,qN)).getD i default=es.getD i default:=by simp[List.getD_eq_getElem?_getD,List.getElem?_set,Ne.symm w0]
            have a7:(bo.modify j fun e=>{e with key:=a.eval k,val:=a.eval x}).getD i default=bo.getD i default:=by
             simp only[Array.getD_eq_getD_getElem?,Array.getElem?_modify,if_neg (Ne.symm w0)]
            rw[aR,a7]
            exact a6 i hi
       obtain⟨q0,wZ,aq,aF,aW,ck⟩:=key
       have aL:g'<w.heap.size:=bU.aX _ _ bA
       generalize cR:({w with heap:=w.heap.setIfInBounds g' (.map q0 wZ)}:World)=w' at aq
       have ej:∀k,k≠g'→w'.heap[k]?=w.heap[k]?:=fun k ay=>by rw[←cR];simp[Array.getElem?_setIfInBounds,Ne.symm ay]
       have hM:w'.heap.size=w.heap.size:=by rw[←cR];simp
       have eU:w'.heap[g']?=some (.map q0 wZ):=by rw[←cR];simp[Array.getElem?_setIfInBounds,aL]
       refine⟨w',bN,?_,bU.c6 aj av bA (ch.refl _) rfl (fun k p ay arM aI fs=>⟨ej k ay,fun _=>rfl,fs⟩) (fun k j c ah=>?_) (fun k p arM=>by rw[hM];exact bU.aX k p arM) bA ⟨q0,wZ,eU,aF,a8,aW,ck⟩,cQ.cC.trans ⟨by rw[←cR],by rw[←cR],by rw[←cR],by rw[hM];exact Nat.le_refl _,fun k ay hm=>⟨ej k (by rintro rfl;exact hm _ bA trivial),rfl,fun _=>rfl⟩,fun _ _ _ e=>e,fun _ _ _=>rfl⟩⟩
       ·rcases dt with rfl | rfl<;>simp only[execOp,Sem.run_bind,aq,Result.andThen_ok,Sem.run_pure]
       ·have gw:k≠g':=by rintro rfl;rw[a8]at ah;cases ah
        have:=bU.cZ _ _ _ ah
        simp only[World.cell?,ej k gw]
        exact this
      ·cases arL
     ·cases arL
    ·cases arL
   ·cases arL
  ·cases arL
 ·cases arL
end Go.aB
namespace Go.aB
open Go
variable {P:Program} {G:bh} {s:ab} {a:Act} {w:World} {o:Oper}
variable {d:Option Nat} {ty:TypeId} {pos:String} {af:Array Edge} {gd:Option (Nat×Bool)}
theorem dm.of_nil {p:bd} {sz:Nat} {x:Value} (h:br G w p (.slc true sz []) x):dm G w p sz [] x:=by
 obtain⟨_,a,cap,rfl,ah⟩:=(h:aH G.S G.β (.slc false sz []) x∧∃a cap,x=.slice a ([]:List V).length cap∧(cap=([]:List V).length∨
  ∃g cs ty,a=some ⟨g,0,none⟩∧G.aV g=some p∧w.heap[g]?=some (.cells cs ty (0,0))∧cs.size=cap*sz∧∀j,([]:List V).length*sz≤j→G.S g j=none))
 rcases ah with ah | ⟨g,cs,ty,J,aa,ar,aP,bf⟩
 ·obtain rfl:cap=0:=ah
  exact dm.BG a
 ·subst J
  exact dm.mk (l:=[]) (bs:=[]) (by simp) (fun b ad=>by rw[List.mem_singleton.1 ad];exact aa) ar aP (Nat.zero_le _) (fun x U=>by cases U) (fun j=>bf j (by simp)) (by rw[show(([]:List V).length*sz)=0 by simp];exact .nil)
theorem Laid.uG {sz:Nat} {m:List V} {news:List Value} (cK:Laid G sz m news.toArray) (aC:news.length=m.length*sz):cX G.S G.β w [] (m.map V.flat).flatten news:=by
 have al:∀x∈m,x.flat.length=sz:=fun x U=>(cK.2.1 x U).1
 refine .Mi (by rw[o1 al,aC]) (fun v arL=>?_) fun k ay=>?_
 ·obtain⟨y,aA,arL⟩:=List.mem_flatten.1 arL
  obtain⟨x,U,rfl⟩:=List.mem_map.1 aA
  exact List.all_eq_true.1 (cK.2.1 x U).2 _ arL
 ·rw[o1 al]at ay
  obtain⟨i,j,hi,au,rfl⟩:=Mj ay
  rw[wC al i j hi au]
  have:=cK.2.2 i j hi au
  simpa[List.getD_eq_getElem?_getD,Array.getD_eq_getD_getElem?]using this
theorem Rel.pc (h:Rel G s a w) (f:bd→bd) (aJ:∀p,(∀c j,p≠.rs c j)→f p=p):Rel (G.bP f) s a w∧Fr s.lv G w (G.bP f) w:=by
 refine⟨⟨h.size,h.defers,fun t=>(h.slot t).bP _ fun c j=>aJ _ (fun _ _ e=>by cases e),fun lv t ob cq=>?_,h.fC,h.cZ,lR h.aX⟩,o2 fun p=>?_⟩
 ·obtain⟨g,aq,aF,aW⟩:=h.obj lv t ob cq
  exact⟨g,aq,by rw[dw aF,aJ _ (fun _ _ e=>by cases e)],aW.bP _ fun j=>aJ _ (fun _ _ e=>by cases e)⟩
 ·cases p with
  | rs c j=>exact .inr trivial
  | _=>exact .inl (aJ _ (fun _ _ e=>by cases e))
theorem dm.cells {p:bd} {sz:Nat} {l:List V} {X:Value} (h:dm G w p sz l X) (P:Program):∃A cap,X=.slice A l.length cap∧∃(olds:List Value) (bs:List Nat),(Builtin.firstCells sz l.length X).run P w=.ok olds.toArray w∧
 (Builtin.firstCells sz l.length X).run P w.drew=.ok olds.toArray w.drew∧olds.length=l.length*sz∧cX G.S G.β w bs (l.map V.flat).flatten olds∧(∀x∈l,x.flat.length=sz)∧bs.Nodup∧(∀b∈bs,G.aV b=some p)∧
 ((l=[]∧cap=0)∨∃g cs ty,A=some ⟨g,0,none⟩∧g∉bs∧G.aV g=some p∧w.heap[g]?=some (.cells cs ty (0,0))∧cs.size=cap*sz∧l.length≤cap∧(∀j,G.S g j=none)∧olds=cs.toList.take (l.length*sz)):=by
 obtain⟨A,cap,rfl,⟨rfl,rfl⟩ | ⟨g,cs,ez,bs,rfl,aC,bA,av,en,jk,al,a8,ay⟩⟩:=h.inv
 ·exact⟨A,0,rfl,[],[],by cases A<;>first | rfl | simp[Builtin.firstCells,loadCells,loadCellsFrom],by cases A<;>first | rfl | simp[Builtin.firstCells,loadCells,loadCellsFrom],by simp,.nil,(fun x U=>by cases U),List.nodup_nil,(fun b ad=>by cases ad),.inl ⟨rfl,rfl⟩⟩
 ·have hle:l.length*sz≤cs.size:=by rw[en];exact Nat.mul_le_mul_right _ jk
  have aL:(cs.toList.take (l.length*sz)).length=l.length*sz:=by simp;omega
  have fm:∀(w:World),w.heap[g]?=some (.cells cs ez (0,0))→(loadCells ⟨g,0,none⟩ (l.length*sz)).run P w=.ok (cs.toList.take (l.length*sz)).toArray w:=by
   intro w av
   have:=run_loadCells_list (P:=P) (w:=w) ⟨g,0,none⟩ (cs.toList.take (l.length*sz)) (fun j v au=>by
    rw[add_eq]
    simp only[World.cell?,av,Nat.zero_add]
    rw[List.getElem?_take]at au
    split at au
    ·simpa using au
    ·cases au)
   rw[aL]at this
   exact this
  exact⟨_,cap,rfl,cs.toList.take (l.length*sz),bs,fm w av,fm w.drew av,aL,ay,al,(List.nodup_cons.1 aC).2,(fun b ad=>bA b (List.mem_cons_of_mem _ ad)),.inr ⟨g,cs,ez,rfl,(List.nodup_cons.1 aC).1,bA g (List.mem_cons_self ..),av,en,jk,a8,rfl⟩⟩
theorem Ck (h:Rel G s a w) {t tx e:TypeId} {sz:Nat} {l m:List V} {X Y:Value} {news:List Value} {nh:List Nat} {q:bd} {kY:TypeDesc} (fl:gY P t=true) (jD:sz=c3 P t) (he:P.underlying t=some (.slice e)) (U:P.underlying tx=some kY) (ay:∀k,kY≠.int k)
 (bO:dm G w (.rs 0 0) sz l X) (hlen:(Builtin.lenOf Y).run P w=.ok m.length w) (aJ:(Builtin.firstCells sz m.length Y).run P w=.ok news.toArray w) (B6:(Builtin.firstCells sz m.length Y).run P w.drew=.ok news.toArray w.drew)
 (cK:cX G.S G.β w nh (m.map V.flat).flatten news) (hQ:∀x∈m,x.flat.length=sz) (wR:nh.Nodup) (Cl:∀b∈nh,G.aV b=some q) (aE:∃i j,q=.rs (i+1) j) (aC:news.length=m.length*sz) (J:∀u∈news,u.oneCell'=true) (ad:(l.length+m.length)*P.bytesOf e≤140737488355328):
 ∃x w' G',(Builtin.append_ #[t,tx] ty #[X,Y]).run P w=.ok x w'∧Rel G' s a w'∧dm G' w' (.rs 0 0) sz (l++m) x∧Fr s.lv G w G' w':=by
 have sg:elemOf P t=e:=by simp[elemOf,he]
 unfold gY at fl
 simp only[Bool.and_eq_true,bne_iff_ne,ne_eq]at fl
 obtain⟨⟨⟨_,wF⟩,B7⟩,mz⟩:=fl
 have sh:sz=az P e:=by rw[jD];simp[c3,sg]
 have B8:az P e≠0:=by rw[←sh,jD];exact wF
 obtain⟨i,d,g1,g2,g3,g4⟩:=lS B8
 rw[sg]at B7 mz
 have wN:P.bytesOf e=i.bytes:=by simp[Program.bytesOf,g1]
 obtain⟨pd,N2,rfl⟩:=aE
 let f:bd→bd:=fun p=>if p=.rs (pd+1) N2 then .rs 0 0 else p
 have ss:∀p,(∀c j,p≠.rs c j)→f p=p:=fun p arM=>if_neg (arM _ _)
 cases pW:zero P e with
 | none=>rw[pW]at mz;cases mz
 | some z=>
   rw[pW]at mz
   have n1:z.length=az P e:=by have:z.length=c3 P t:=by simpa using mz
                               rw[this,←jD,sh]
   obtain⟨cY,aq,aF,aW,_⟩:=se pW
   have nY:i.zero=some cY:=by
    have:=aq default
    simp only[zeroValue,Sem.run_bind,typeInfo,run_program,Result.andThen_ok,g1,Sem.run_pure]at this
    cases bj:i.zero with
    | none=>simp[bj]at this
    | some y=>simp[bj]at this;rw[this]
   have arZ:0<sz:=by omega
   have pX:i.size=sz:=by omega
   have arQ:(l++m).length=l.length+m.length:=by simp
   have Gr:∀x∈l++m,x.flat.length=sz:=fun x U=>by
    rcases List.mem_append.1 U with U | U
    ·obtain⟨_,_,_,_,_,_,_,_,_,al,_⟩:=bO.cells P
     exact al x U
    ·exact hQ x U
   obtain⟨A,cap,rfl,olds,bs,mA,n2,lZ,hold,F3,N3,Gs,mw⟩:=bO.cells P
   have Cf:∀b∈bs,∀c∈nh,b≠c:=fun b ad c ah e=>by
    have aR:=Gs b ad
    rw[e,Cl c ah]at aR
    cases aR
   have h7:(bs++nh).Nodup:=List.nodup_append.2 ⟨N3,wR,Cf⟩
   have fE:=hold.app cK
   have df:((l++m).map V.flat).flatten=(l.map V.flat).flatten++(m.map V.flat).flatten:=by simp
   have fe:∀rest:List Value,(olds++news++rest).take ((l.length+m.length)*sz)=olds++news:=fun rest=>by
    rw[List.take_append_of_le_length (by rw[List.length_append,lZ,aC,Nat.add_mul];omega),List.take_of_length_le (by rw[List.length_append,lZ,aC,Nat.add_mul];omega)]
   obtain⟨cd,dS⟩:=h.pc f ss
   have Cm:∀b∈bs++nh,(G.bP f).aV b=some (.rs 0 0):=fun b ad=>by
    rcases List.mem_append.1 ad with ad | ad
    ·rw[dw (Gs b ad)];exact congrArg some (if_neg (by simp))
    ·rw[dw (Cl b ad)];exact congrArg some (if_pos rfl)
   by_cases qV:l.length+m.length≤cap
   ·have aI:=FX (P:=P) (w:=w) (t:=t) (tx:=tx) (tyy:=ty) (A:=A) (n:=l.length) (cap:=cap) (Y:=Y) he g1 U ay hlen (by rw[pX];exact aJ) qV
    rcases mw with⟨rfl,rfl⟩ | ⟨g,cs,ez,rfl,n8,bA,av,en,jk,a8,N4⟩
    ·have si:m=[]:=List.eq_nil_of_length_eq_zero (by simpa using qV)
     subst si
     have uy:news=[]:=List.eq_nil_of_length_eq_zero (by simpa using aC)
     subst uy
     refine⟨.slice A 0 0,w,G,?_,h,dm.BG A,Fr.refl _ _ _⟩
     rw[aI]
     cases A<;>simp[storeCells]
    ·have n0:l.length*sz+news.length≤cs.size:=by rw[aC,en,←Nat.add_mul];exact Nat.mul_le_mul_right _ qV
     have cQ:=run_storeCells_at P g (l.length*sz) ez news 0 cs w av (by simpa using n0) J
     simp only[Nat.add_zero]at cQ
     have eU:(w.setRow g (cs.toList.take (l.length*sz)++news++cs.toList.drop (l.length*sz+news.length)).toArray).heap[g]?=some (.cells (cs.toList.take (l.length*sz)++news++cs.toList.drop (l.length*sz+news.length)).toArray ez (0,0)):=setRow_heap w g cs _ ez _ av
     generalize cR:w.setRow g (cs.toList.take (l.length*sz)++news++cs.toList.drop (l.length*sz+news.length)).toArray=w' at cQ eU
     have ej:∀k,k≠g→w'.heap[k]?=w.heap[k]?:=fun k ay=>by rw[←cR];exact setRow_other w g k _ ay
     have hM:w'.heap.size=w.heap.size:=by rw[←cR];simp
     have k0:∀b∈bs++nh,b≠g:=fun b ad e=>by
      subst e
      rcases List.mem_append.1 ad with ad | ad
      ·exact n8 ad
      ·rw[Cl _ ad]at bA;cases bA
     rw[←N4]at eU
     refine⟨.slice (some ⟨g,0,none⟩) (l.length+m.length) cap,w',G.bP f,?_,cd.grow (ch.refl _) rfl (fun k p arM fs=>?_) (fun k j c ah=>?_) (fun k p arM=>by rw[hM];exact cd.aX k p arM),?_,dS.trans ⟨by rw[←cR];rfl,by rw[←cR];rfl,by rw[←cR];rfl,by rw[hM];exact Nat.le_refl _,fun k ay hm=>?_,fun _ _ _ e=>e,fun _ _ _=>rfl⟩⟩
     ·rw[aI]
      show((storeCells ((⟨g,0,none⟩:Addr).add (l.length*i.size)) news).run P w).andThen _=_
      rw[pX,add_eq,Nat.zero_add,cQ]
      rfl
     ·have gw:k≠g:=by
       rintro rfl
       rw[dw bA]at fs
       have e:p=.rs 0 0:=by rw[←Option.some.inj fs];exact if_neg (by simp)
       exact arM 0 0 e
      exact⟨ej k gw,fun _=>rfl,fs⟩
     ·have gw:k≠g:=by rintro rfl;have:G.S k j=some c:=ah;rw[a8 j]at this;cases this
      have:=h.cZ _ _ _ ah
      simp only[World.cell?,ej k gw]
      exact this
     ·rw[←arQ]
      refine dm.mk (bs:=bs++nh) (List.nodup_cons.2 ⟨fun ad=>k0 _ ad rfl,h7⟩) (fun b ad=>?_) eU ?_ (by omega) Gr a8 ?_
      ·rcases List.mem_cons.1 ad with rfl | ad
       ·rw[dw bA];exact congrArg some (if_neg (by simp))
       ·exact Cm b ad
      ·have:olds.length≤cs.size:=by rw[lZ];omega
       simp only[List.size_toArray,List.length_append,List.length_drop,Array.length_toList]
       omega
      ·rw[df,arQ]
       show cX _ _ _ _ _ (List.take _ (olds++news++_))
       rw[fe]
       exact fE.mono (fun _ _ _ e=>e) fun b ad=>⟨ej b (k0 b ad),fun _=>rfl⟩
     ·have gw:k≠g:=by rintro rfl;exact hm _ (dw bA) (by rw[show f (.rs 0 0)=.rs 0 0 from if_neg (by simp)];trivial)
      exact⟨ej k gw,rfl,fun _=>rfl⟩
   ·have aqS:cap<l.length+m.length:=by omega
    have aI:=FY (P:=P) (w:=w) (t:=t) (tx:=tx) (tyy:=ty) (A:=A) (n:=l.length) (cap:=cap) (Y:=Y) (news:=news) (olds:=olds) he g1 nY U ay hlen (by rw[pX];exact B6) (by rw[pX];exact n2) (by omega) (by omega) (by rw[←wN];exact ad)
    have qY:=grownCap_ge w (l.length+m.length) cap e
    have Cb:(Builtin.zeroCells cY.cells (grownCap w (l.length+m.length) cap e-(l.length+m.length))).size=(grownCap w (l.length+m.length) cap e-(l.length+m.length))*sz:=by
     rw[size_zeroCells,←aF,n1,sh]
    have sj:olds.toArray++news.toArray++Builtin.zeroCells cY.cells (grownCap w (l.length+m.length) cap e-(l.length+m.length))=(olds++news++(Builtin.zeroCells cY.cells (grownCap w (l.length+m.length) cap e-(l.length+m.length))).toList).toArray:=by
     apply Array.ext'
     simp
    rw[sj]at aI
    have Gt:∀b∈bs++nh,b<w.heap.size:=fun b ad=>cd.aX _ _ (Cm b ad)
    obtain⟨bt,bq,cN,_⟩:=cd.drew.BW 0 (olds++news++(Builtin.zeroCells cY.cells (grownCap w (l.length+m.length) cap e-(l.length+m.length))).toList).toArray e (.rs 0 0)
    refine⟨_,_,_,aI,bt,?_,dS.trans cN.drew⟩
    rw[←arQ]
    have aY:∀b∈bs++nh,b≠w.drew.heap.size:=fun b ad=>Nat.ne_of_lt (Gt b ad)
    refine dm.mk (bs:=bs++nh) (List.nodup_cons.2 ⟨fun ad=>aY _ ad rfl,h7⟩) (fun b ad=>?_) (heap_alloc_new _ _) ?_ (by rw[arQ];exact qY) Gr (fun j=>?_) ?_
    ·rcases List.mem_cons.1 ad with rfl | ad
     ·show(if w.drew.heap.size=w.drew.heap.size then _ else _)=_
      rw[if_pos rfl]
     ·show(if b=w.drew.heap.size then _ else _)=_
      rw[if_neg (aY b ad)]
      exact Cm b ad
    ·have Cc:(Builtin.zeroCells cY.cells (grownCap w (l.length+m.length) cap e-(l.length+m.length))).toList.length=(grownCap w (l.length+m.length) cap e-(l.length+m.length))*sz:=by rw[Array.length_toList];exact Cb
     rw[List.size_toArray,List.length_append,List.length_append,arQ,Cc,lZ,aC,←Nat.add_mul,←Nat.add_mul]
     congr 1
     omega
    ·show(if w.drew.heap.size=w.drew.heap.size then(if j<0 then _ else _)else _)=_
     rw[if_pos rfl,if_neg (by omega)]
    ·rw[df,arQ]
     show cX _ _ _ _ _ (List.take _ (olds++news++_))
     rw[fe]
     refine fE.mono (fun v x _ e=>e.mono bq.S bq.β) fun b ad=>?_
     have h8:=Gt b ad
     refine⟨?_,fun j=>?_⟩
     ·exact uo _ _ h8
     ·show(if b=w.drew.heap.size then _ else _)=_
      rw[if_neg (aY b ad)]
      rfl
theorem N5 {t bY:TypeId} {sz:Nat} {l:List V} {y r:V} (h:pN P t bY (.slc true sz l) y=some r):gY P t=true∧sz=c3 P t∧∃m,r=.slc true sz (l++m)∧(l.length+m.length)*P.bytesOf (elemOf P t)≤140737488355328∧
 ((∃own,y=.slc own sz m∧hp P bY=true)∨∃b,y=.str b∧isStr P bY=true∧sz=1∧m=gX b):=by
 unfold pN at h
 dsimp only at h
 split at h
 ·rename_i fl
  refine⟨fl.1,fl.2,?_⟩
  split at h
  ·split at h
   ·rename_i ah
    split at h
    ·rename_i ad
     obtain⟨J,rfl⟩:=ah
     exact⟨_,(Option.some.inj h).symm,ad,.inl ⟨_,rfl,J⟩⟩
    ·cases h
   ·cases h
  ·split at h
   ·rename_i ah
    split at h
    ·rename_i ad
     obtain⟨J,rfl⟩:=ah
     exact⟨_,(Option.some.inj h).symm,by simpa[gX]using ad,.inr ⟨_,rfl,J,rfl,rfl⟩⟩
    ·cases h
   ·cases h
  ·cases h
 ·cases h
theorem N6 {x y:Operand} {t bY:TypeId} {u:Bool} {v:V} (h:Rel G s a w) (arL:yP P t bY u (s.all P t x) (s.aM P bY y)=some v):
 b5 P ⟨d,.call {callee:=.builtin .append,args:=#[x,y],argTypes:=#[t,bY]},ty,pos,af,gd⟩ G s a w v (s.drop x):=by
 obtain⟨bl,J,aa,ar,_,bf,b4⟩:=h.all P t x
 have aA:=h.aM P bY y
 have bn:∀own sz l,s.aM P bY y=.slc own sz l→own=false:=fun own sz l e=>uf e
 have cG:(s.drop x).lv=s.lv:=by cases x<;>rfl
 have core:∀{sz l},dm bl w (.rs 0 0) sz l (a.eval x)→((pN P t bY (.slc true sz l) (s.aM P bY y)).bind fun r=>match r with
  | .slc true sz l=>some (V.uq sz l)
  | _=>none)=some v→b5 P ⟨d,.call {callee:=.builtin .append,args:=#[x,y],argTypes:=#[t,bY]},ty,pos,af,gd⟩ G s a w v (s.drop x):=by
  intro sz l bO ad
  obtain⟨r,aI,N7⟩:=Option.bind_eq_some_iff.1 ad
  obtain⟨fl,jD,m,rfl,p2,Cn⟩:=N5 aI
  obtain rfl:=Option.some.inj N7
  obtain⟨e,he,jF⟩:=jC (by simp only[gY,Bool.and_eq_true]at fl;exact fl.1.1.1)
  rw[jF]at p2
  rw[←bf,←b4]at aA
  have fin:∀{dz:Value} {w':World} {G':bh},(Builtin.append_ #[t,bY] ty #[a.eval x,a.eval y]).run P w=.ok dz w'→Rel G' (s.drop x) a w'→dm G' w' (.rs 0 0) sz (l++m) dz→Fr (s.drop x).lv bl w G' w'→b5 P ⟨d,.call {callee:=.builtin .append,args:=#[x,y],argTypes:=#[t,bY]},ty,pos,af,gd⟩ G s a w (.uq sz (l++m)) (s.drop x):=by
   intro dz w' G' aR a7 cj da
   refine⟨dz,w',G',nT ?_,a7,cj,ar.trans (by rw[cG]at da;exact da)⟩
   simp only[builtin,List.map_toArray,List.map_cons,List.map_nil,Sem.run_bind,aR,Result.andThen_ok,Sem.run_pure]
  rcases Cn with⟨own,pe,j7⟩ | ⟨b,pe,cQ,rfl,rfl⟩
  ·obtain rfl:=bn _ _ _ pe
   rw[pe]at aA
   obtain⟨cc,pZ,_⟩:=jC j7
   have arZ:0<sz:=by
    simp only[gY,Bool.and_eq_true,bne_iff_ne]at fl
    have:=fl.1.1.2
    omega
   obtain⟨cs,c4,cu,cS,n3,hc,j8⟩:=B5 (P:=P) J arZ aA
   obtain⟨dz,w',G',aR,a7,cj,da⟩:=Ck (ty:=ty) (q:=.rs 1 0) J fl jD he pZ (fun k e=>by cases e) bO c4 cu cS (n3.uG hc) (fun x U=>(n3.2.1 x U).1) List.nodup_nil (fun b ad=>by cases ad) ⟨0,0,rfl⟩ hc j8 p2
   exact fin aR a7 cj da
  ·rw[pe]at aA
   have pZ:=wE cQ
   obtain⟨cs,c4,cu,cS,n3,hc,Cd,j8⟩:=F0 (P:=P) (G:=bl) (w:=w) (sz:=1) b
   rw[aA.ky]at fin
   rw[←Cd]at c4 cu cS
   obtain⟨dz,w',G',aR,a7,cj,da⟩:=Ck (ty:=ty) (q:=.rs 1 0) J fl jD he pZ (fun k e=>by cases e) bO c4 cu cS (n3.uG hc) (fun x U=>(n3.2.1 x U).1) List.nodup_nil (fun b ad=>by cases ad) ⟨0,0,rfl⟩ hc j8 p2
   exact fin aR a7 cj da
 unfold yP at arL
 split at arL
 ·rename_i sz l U
  rw[U]at aa
  exact core aa arL
 ·split at arL
  ·split at arL
   ·rename_i sz U
    rw[U]at aa
    exact core (dm.of_nil aa) arL
   ·cases arL
  ·exact Nk h arL
end Go.aB
