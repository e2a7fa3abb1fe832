/- The frames of readings and of what turns objects. -/
import Derived.Test.YtlecddobnippmaaGreatEvK
set_option linter.unusedVariables false
set_option linter.unusedSimpArgs false
namespace Go.aB
open Go
variable {P:Program} {E:Env} {s:ab} {H:Hint} {ev:ds} {o:Oper}
def wt (s:ab) (t2:Nat→V):ab:={s with t:=t2}
variable {t2:Nat→V}
theorem q8 (lv u:Nat) (ob:ax):(wt s t2).c6 lv u ob=wt (s.c6 lv u ob) t2:=by
 unfold ab.c6 wt
 dsimp only
 split<;>rfl
theorem pt (lv u:Nat):(wt s t2).ob lv u=s.ob lv u:=rfl
theorem Qi (v:V):(wt s t2).c2 v=wt (s.c2 v) t2:=by
 unfold ab.c2
 cases v with
 | bS lv t n=>
   dsimp only
   rw[pt]
   cases s.ob lv t with
   | none=>rfl
   | some ob=>
     cases ob with
     | arr iv sz l=>
       cases iv
       ·exact q8 _ _ _
       ·rfl
     | _=>rfl
 | _=>rfl
theorem Qj {jV:Bool} {t:TypeId} {u:V}:hq P (wt s t2) jV t u=(hq P s jV t u).map fun r=>(r.1,wt r.2 t2):=by
 unfold hq
 cases u with
 | ptr lv u off=>
   dsimp only
   rw[pt]
   cases s.ob lv u with
   | none=>rfl
   | some ob=>
     cases ob with
     | box cs=>
       dsimp only
       split
       ·cases jV
        ·rfl
        ·simp only[if_true,q8,Option.map]
       ·rfl
     | _=>rfl
 | imp l=>dsimp only;split<;>rfl
 | gA lv u i sz=>
   dsimp only
   rw[pt]
   cases s.ob lv u with
   | none=>rfl
   | some ob=>
     cases ob with
     | arr iv b8 l=>dsimp only;split<;>rfl
     | dir b8 l=>dsimp only;split<;>rfl
     | _=>rfl
 | _=>rfl
theorem Qk (v:V):aB.tree (wt s t2) v=aB.tree s v:=by
 unfold aB.tree
 split<;>rfl
theorem Hn {ty:TypeId} {x:Operand} (h:(wt s t2).aM P ty x=s.aM P ty x):(wt s t2).tree P ty x=(s.tree P ty x).map fun r=>(r.1,wt r.2 t2):=by
 unfold ab.tree
 dsimp only
 rw[h,Qi,Qk]
 cases aB.tree (s.c2 (s.aM P ty x)) (s.aM P ty x)<;>rfl
theorem Ql {ty:TypeId} {x:Operand} (h:(wt s t2).aM P ty x=s.aM P ty x):(wt s t2).arg P ty x=(s.arg P ty x).map fun r=>(r.1,wt r.2 t2):=by
 have:=Hn (s:=s) (t2:=t2) (P:=P) h
 unfold ab.arg
 rw[h]
 split
 ·rfl
 ·rfl
 ·rfl
 ·exact this
theorem Ho {ty:TypeId} {x:Operand} {v:V} {s1:ab} (h:s.arg P ty x=some (v,s1)):s1.t=s.t:=by
 unfold ab.arg at h
 split at h
 ·obtain⟨_,rfl⟩:=Prod.mk.inj (Option.some.inj h);rfl
 ·obtain⟨_,rfl⟩:=Prod.mk.inj (Option.some.inj h);rfl
 ·obtain⟨_,rfl⟩:=Prod.mk.inj (Option.some.inj h);rfl
 ·unfold ab.tree at h
  obtain⟨_,_,he⟩:=Option.map_eq_some_iff.1 h
  obtain⟨_,rfl⟩:=Prod.mk.inj he
  exact CL _
theorem Qm:∀(xs:List (TypeId×Operand)) {s s1:ab} {vs:List V},ab.args P s xs=some (vs,s1)→s1.t=s.t:=by
 intro xs
 induction xs with
 | nil=>intro s s1 vs h;obtain⟨_,rfl⟩:=Prod.mk.inj (Option.some.inj h);rfl
 | cons x xs ag=>
   intro s s1 vs h
   unfold ab.args at h
   split at h
   ·rename_i J
    split at h
    ·rename_i aa
     obtain⟨_,rfl⟩:=Prod.mk.inj (Option.some.inj h)
     exact(ag aa).trans (Ho J)
    ·cases h
   ·cases h
theorem Qn:∀(xs:List (TypeId×Operand)) {s:ab},(∀i,.tmp i∈xs.map Prod.snd→t2 i=s.t i)→ab.args P (wt s t2) xs=(ab.args P s xs).map fun r=>(r.1,wt r.2 t2):=by
 intro xs
 induction xs with
 | nil=>intro s _;rfl
 | cons x xs ag=>
   intro s h
   obtain⟨ty,x⟩:=x
   unfold ab.args
   rw[Ql (xd fun i hi=>h i (by rw[←hi];exact List.mem_cons_self))]
   cases aO:s.arg P ty x with
   | none=>rfl
   | some r=>
     obtain⟨v,s1⟩:=r
     dsimp only[Option.map]
     rw[ag (s:=s1) fun i hi=>(h i (List.mem_cons_of_mem _ hi)).trans (by rw[Ho aO])]
     cases ab.args P s1 xs<;>rfl
theorem CU (h:∀f a b,o.op≠.call {callee:=.value f,args:=a,argTypes:=b}):fB E ev o s=(bw E.P (E.H s.f) (o.dst.getD 0) o.type o.op s).map (·.1):=by
 unfold fB
 split
 ·rename_i e;exact absurd e (h _ _ _)
 ·rfl
theorem zQ {d:Nat} {v:V} {B:Nat→Option ax} {O:List (Nat→Option ax)}:gf (some d) (wt s t2) (some {(wt s t2).put d v with b:=B,o:=O})=gf (some d) s (some {s.put d v with b:=B,o:=O}):=by
 unfold gf
 dsimp only
 have e:∀s:ab,({s.put d v with b:=B,o:=O}:ab).t d=v:=fun s=>by show ae s.t d v d=v;simp[ae]
 rw[e,e]
 have key:∀s:ab,({s.put d v with b:=B,o:=O}:ab)=s.put d v↔B=s.b∧O=s.o:=by
  intro s
  constructor
  ·intro h;exact⟨congrArg ab.b h,congrArg ab.o h⟩
  ·rintro⟨rfl,rfl⟩;rfl
 by_cases ah:B=s.b∧O=s.o
 ·rw[if_pos ((key (wt s t2)).2 ah),if_pos ((key s).2 ah)]
 ·rw[if_neg fun h=>ah ((key (wt s t2)).1 h),if_neg fun h=>ah ((key s).1 h)]
theorem Qo:∀(n:Nat) (v:V),ht (wt s t2) n v=ht s n v:=by
 intro n
 induction n with
 | zero=>intro v;cases v<;>rfl
 | succ n ag=>
   intro v
   have e:ht (wt s t2) n=ht s n:=funext ag
   cases v with
   | bS lv t k=>
     unfold ht
     rw[pt,e]
   | _=>rfl
theorem Qp {ty:TypeId} {x:Operand} (h:(wt s t2).aM P ty x=s.aM P ty x):(wt s t2).pR P ty x=s.pR P ty x:=by
 unfold ab.pR
 rw[h]
 have e:ht (wt s t2) 9=ht s 9:=funext (Qo 9)
 rw[e]
theorem Qq:∀(xs:List (TypeId×Operand)),(∀i,.tmp i∈xs.map Prod.snd→t2 i=s.t i)→ab.gb (wt s t2) P xs=ab.gb s P xs:=by
 intro xs
 induction xs with
 | nil=>intro _;rfl
 | cons x xs ag=>
   intro h
   obtain⟨ty,x⟩:=x
   unfold ab.gb
   rw[Qp (xd fun i hi=>h i (by rw[←hi];exact List.mem_cons_self)),ag fun i hi=>h i (List.mem_cons_of_mem _ hi)]
theorem Qr {d:Nat} {f:Operand} {args:Array Operand} {tys:Array TypeId} (aJ:(wt s t2).aM E.P 0 f=s.aM E.P 0 f) (aO:∀i,.tmp i∈args.toList→t2 i=s.t i):gf (some d) (wt s t2) (eC E ev (m3 E (some d) f args tys [] (wt s t2)))=gf (some d) s (eC E ev (m3 E (some d) f args tys [] s)):=by
 unfold m3
 rw[aJ,Qq _ fun i hi=>aO i (by
  obtain⟨x,U,he⟩:=List.mem_map.1 hi
  have:=(List.of_mem_zip U).2
  rw[he]at this;exact this)]
 cases s.aM E.P 0 f with
 | fn g bg=>
   cases bg with
   | cons _ _=>cases s.gb E.P (tys.toList.zip args.toList)<;>rfl
   | nil=>
     cases s.gb E.P (tys.toList.zip args.toList)with
     | none=>rfl
     | some vs=>
       dsimp only
       show gf (some d) (wt s t2) (eC E ev (if args.size=tys.size∧(some d).all (fun d=>decide (d<s.n))=true then _ else _))=_
       split
       rotate_left
       ·rfl
       show gf (some d) (wt s t2) (match gZ E g vs []with | none=>none | some (cf,bE)=>match ev cf bE with | none=>none | some r=>some (h1 (wt s t2) (true,false,true) (some d) r.1 r.2))=gf (some d) s (match gZ E g vs []with | none=>none | some (cf,bE)=>match ev cf bE with | none=>none | some r=>some (h1 s (true,false,true) (some d) r.1 r.2))
       cases gZ E g vs []with
       | none=>rfl
       | some x=>
         obtain⟨cf,bE⟩:=x
         dsimp only
         cases ev cf bE with
         | none=>rfl
         | some r=>exact zQ (s:=s) (t2:=t2) (d:=d) (v:=wu (false,true) r.1) (B:=s.b) (O:=s.o)
 | _=>rfl
theorem zR (U:dj (E.H s.f) o=true) (ft:og o s (wt s t2)):fB E ev o (wt s t2)=fB E ev o s:=by
 obtain⟨dst,op,ty,pos,af,gd⟩:=o
 have al:=fun(x:Operand) U ty=>og.aM (P:=E.P) (x:=x) ft U ty
 by_cases qc:∃f args tys,op=.call {callee:=.value f,args:=args,argTypes:=tys}
 ·obtain⟨f,args,tys,rfl⟩:=qc
  cases dst with
  | none=>simp[dj]at U
  | some d=>
    unfold fB
    dsimp only
    by_cases qd:gB (some d) (E.H s.f).fI=true
    ·rw[if_pos qd,if_pos (show gB (some d) (E.H (wt s t2).f).fI=true from qd)]
     exact Qr (al f (by simp[Op.operands,Call.operands]) 0) fun i hi=>ft i (by simp only[Op.operands,Call.operands];simp;exact .inr (Array.mem_toList_iff.1 hi))
    rw[if_neg qd,if_neg (show ¬gB (some d) (E.H (wt s t2).f).fI=true from qd)]
    have fE:(args.toList.all fun x=>!isRef ((wt s t2).aM E.P 0 x))=args.toList.all fun x=>!isRef (s.aM E.P 0 x):=by
     rw[Bool.eq_iff_iff,List.all_eq_true,List.all_eq_true]
     constructor
     ·intro h x U;have:=h x U;rw[al x (by simp[Op.operands,Call.operands];exact .inr (Array.mem_toList_iff.1 U))]at this;exact this
     ·intro h x U;rw[al x (by simp[Op.operands,Call.operands];exact .inr (Array.mem_toList_iff.1 U))];exact h x U
    rw[fE]
    split
    rotate_left
    ·rfl
    rename_i aw
    have J:=CT (tys:=tys) aw
    obtain⟨aa,ar⟩:=zP (s2:=wt s t2) J fun i hi=>ft i (by
     obtain⟨x,U,he⟩:=List.mem_map.1 hi
     have:=(List.of_mem_zip U).2
     rw[he]at this
     simp only[Op.operands,Call.operands];simp;exact .inr (Array.mem_toList_iff.1 this))
    unfold jy
    rw[al f (by simp[Op.operands,Call.operands]),xf _ J,xf _ aa,ar]
    cases s.aM E.P 0 f with
    | fn g bg=>
      cases e0 (fun x=>aB.tree s (s.aM E.P x.1 x.2)) (tys.toList.zip args.toList)with
      | none=>rfl
      | some vs=>
        dsimp only[Option.map_some]
        show gf (some d) (wt s t2) (eC E ev (if args.size=tys.size∧(some d).all (fun d=>decide (d<s.n))=true then _ else _))=_
        split
        rotate_left
        ·rfl
        show gf (some d) (wt s t2) (eC E ev (if((vs++bg).any isRef||!bg.isEmpty)=true then .call g (vs++bg) (s.b::s.o) (false,dQ E g (some d) s,false) (some d) [] (wt s t2)else match E.bm g (vs++bg)with
         | some v=>.go [] ((wt s t2).cV (some d) v)
         | none=>.call g (vs++bg) [] (true,dQ E g (some d) s,false) (some d) [] (wt s t2)))=_
        split
        ·show gf (some d) (wt s t2) (match gZ E g (vs++bg) (s.b::s.o)with | none=>none | some (cf,bE)=>match ev cf bE with | none=>none | some r=>some (h1 (wt s t2) (false,dQ E g (some d) s,false) (some d) r.1 r.2))=gf (some d) s (match gZ E g (vs++bg) (s.b::s.o)with | none=>none | some (cf,bE)=>match ev cf bE with | none=>none | some r=>some (h1 s (false,dQ E g (some d) s,false) (some d) r.1 r.2))
         cases gZ E g (vs++bg) (s.b::s.o)with
         | none=>rfl
         | some x=>
           obtain⟨cf,bE⟩:=x
           dsimp only
           cases ev cf bE with
           | none=>rfl
           | some r=>exact zQ
        ·cases E.bm g (vs++bg)with
         | some v=>exact zQ (s:=s) (t2:=t2) (d:=d) (v:=v) (B:=s.b) (O:=s.o)
         | none=>
           show gf (some d) (wt s t2) (match gZ E g (vs++bg) []with | none=>none | some (cf,bE)=>match ev cf bE with | none=>none | some r=>some (h1 (wt s t2) (true,dQ E g (some d) s,false) (some d) r.1 r.2))=gf (some d) s (match gZ E g (vs++bg) []with | none=>none | some (cf,bE)=>match ev cf bE with | none=>none | some r=>some (h1 s (true,dQ E g (some d) s,false) (some d) r.1 r.2))
           cases gZ E g (vs++bg) []with
           | none=>rfl
           | some x=>
             obtain⟨cf,bE⟩:=x
             dsimp only
             cases ev cf bE with
             | none=>rfl
             | some r=>exact zQ (s:=s) (t2:=t2) (d:=d) (v:=iw (dQ E g (some d) s) r.1) (B:=s.b) (O:=s.o)
    | _=>rfl
 have aY:∀f a b,op≠.call {callee:=.value f,args:=a,argTypes:=b}:=fun f a b e=>qc ⟨f,a,b,e⟩
 rw[CU (by exact aY),CU (by exact aY)]
 show Option.map _ (bw E.P (E.H s.f) (dst.getD 0) ty op (wt s t2))=Option.map _ (bw E.P (E.H s.f) (dst.getD 0) ty op s)
 cases dst with
 | none=>simp[dj]at U
 | some d=>
   cases op
   case load t a=>
    have fe:aG d (E.H s.f).take=false∧aG d (E.H s.f).make=false:=by simpa[dj]using U
    obtain⟨fe,iQ⟩:=fe
    simp only[bw,Option.getD_some,fe,show aG d (E.H (wt s t2).f).make=false from iQ,iQ,Bool.false_eq_true,if_false]
    rw[al a (by simp[Op.operands])]
    rw[Qj]
    cases hq E.P s false t (s.aM E.P 0 a)<;>rfl
   case lookup t m k ok=>
    simp only[bw]
    split
    ·rw[al m (by simp[Op.operands]),al k (by simp[Op.operands]),gJ,gJ]
     rfl
    ·rfl
   case call c=>
    obtain⟨xh,args,tys⟩:=c
    cases xh with
    | value f=>exact absurd rfl (aY _ _ _)
    | builtin b=>simp[dj]at U
    | _=>simp[dj]at U
   all_goals (simp[dj]at U;done)
theorem Qs {v:V} (U:dj (E.H s.f) o=true) (dr:fr s o=true) (arL:fB E ev o s=some v):eL E ev o s=some (s.dR (E.H s.f) o v):=by
 obtain⟨dst,op,ty,pos,af,gd⟩:=o
 rw[CR _ _ (Hl fun u i e=>by dsimp only at e;subst e;simp[dj]at U;cases dst<;>simp[dj]at U)]
 cases dst with
 | none=>simp[dj]at U
 | some d=>
   have aL:d<s.n:=by simpa[fr]using dr
   by_cases qc:∃f args tys,op=.call {callee:=.value f,args:=args,argTypes:=tys}
   ·obtain⟨f,args,tys,rfl⟩:=qc
    unfold fB at arL
    dsimp only at arL
    by_cases qd:gB (some d) (E.H s.f).fI=true
    ·rw[if_pos qd]at arL
     unfold gf at arL
     split at arL
     ·rename_i s1 J
      dsimp only at arL
      split at arL
      ·rename_i he
       obtain rfl:=Option.some.inj arL
       show eC E ev (gC E (some d) f args tys [] s)=_
       unfold gC
       rw[if_pos qd,J]
       exact congrArg some he
      ·cases arL
     ·cases arL
    rw[if_neg qd]at arL
    split at arL
    ·unfold gf at arL
     split at arL
     ·rename_i s1 J
      dsimp only at arL
      split at arL
      ·rename_i he
       obtain rfl:=Option.some.inj arL
       show eC E ev (gC E (some d) f args tys [] s)=_
       have Hp:aG d (E.H s.f).fI=false:=by simpa[gB]using qd
       obtain⟨xg,oh⟩:aG d (E.H s.f).fI=false∧aG d (E.H s.f).iL=false:=by
        have:=U
        simp[dj,Hp]at this
        exact⟨Hp,this.2⟩
       have uS:gB (some d) (E.H s.f).fI=false:=xg
       have uT:gB (some d) (E.H s.f).iL=false:=oh
       rw[yY uS uT]
       rw[J]
       exact congrArg some he
      ·cases arL
     ·cases arL
    ·cases arL
   have aY:∀f a b,op≠.call {callee:=.value f,args:=a,argTypes:=b}:=fun f a b e=>qc ⟨f,a,b,e⟩
   rw[CU (by exact aY)]at arL
   obtain⟨⟨bF,s1⟩,ec,rfl⟩:=Option.map_eq_some_iff.1 arL
   have fin:s1=s→jx E.P (E.H s.f) ⟨some d,op,ty,pos,af,gd⟩ s=some (s.put d bF):=by
    rintro rfl
    unfold jx
    dsimp only
    rw[if_pos aL]
    show Option.map _ (bw E.P (E.H s1.f) d ty op s1)=_
    rw[show bw E.P (E.H s1.f) d ty op s1=some (bF,s1)from ec]
    rfl
   cases op
   case load t a=>
    have fe:aG d (E.H s.f).take=false∧aG d (E.H s.f).make=false:=by simpa[dj]using U
    obtain⟨fe,iQ⟩:=fe
    refine fin ?_
    simp only[bw,Option.getD_some,fe,iQ,Bool.false_eq_true,if_false]at ec
    unfold hq at ec
    split at ec
    ·split at ec
     ·simp only[Bool.false_eq_true,if_false]at ec
      split at ec
      ·exact((Prod.mk.inj (Option.some.inj ec)).2).symm
      ·cases ec
     ·cases ec
    ·split at ec
     ·exact((Prod.mk.inj (Option.some.inj ec)).2).symm
     ·cases ec
    ·split at ec
     ·split at ec
      ·exact((Prod.mk.inj (Option.some.inj ec)).2).symm
      ·cases ec
     ·split at ec
      ·exact((Prod.mk.inj (Option.some.inj ec)).2).symm
      ·cases ec
     ·cases ec
    ·cases ec
   case lookup t m k ok=>
    refine fin ?_
    simp only[bw]at ec
    split at ec
    ·exact sH ec
    ·cases ec
   case call c=>
    obtain⟨xh,args,tys⟩:=c
    cases xh with
    | value f=>exact absurd rfl (aY _ _ _)
    | builtin b=>simp[dj]at U
    | _=>simp[dj]at U
   all_goals (simp[dj]at U;done)
theorem Qt {all:Array Oper} (h:∀j want d,o.guard=some (j,want)→(all[j]?).bind (·.dst)=some d→t2 d=s.t d) {s2:ab} (al:s2.t=t2):ha all o s2=ha all o s:=by
 unfold ha
 cases av:o.guard with
 | none=>rfl
 | some CP=>
   obtain⟨j,want⟩:=CP
   dsimp only
   have:((all[j]?).bind (·.dst)).map s2.t=((all[j]?).bind (·.dst)).map s.t:=by
    cases aw:(all[j]?).bind (·.dst)with
    | none=>rfl
    | some d=>
      simp only[Option.map]
      rw[al,h j want d av aw]
   rw[this]
theorem CV {s3:ab} {d:Nat} {v:V} (D:List Nat) (mB:aG d D=true) (ar:∀x,aG x D=true→x≠d→t2 x=s3.t x):ae t2 d v=fun x=>if aG x D then(s3.put d v).t x else t2 x:=by
 funext x
 show ae t2 d v x=if aG x D then ae s3.t d v x else t2 x
 unfold ae
 by_cases e:x=d
 ·subst e;simp[mB]
 ·simp only[if_neg e]
  split
  ·rename_i h;exact ar x h e
  ·rfl
theorem Qu {d:Nat} {f:Operand} {args:Array Operand} {tys:Array TypeId} (aJ:(wt s t2).aM E.P 0 f=s.aM E.P 0 f) (aO:∀i,.tmp i∈args.toList→t2 i=s.t i):
 (∃g vs outer plain s1,jy E (some d) f args tys [] s=.call g vs outer plain (some d) [] s1∧jy E (some d) f args tys [] (wt s t2)=.call g vs outer plain (some d) [] (wt s1 t2)∧s1.t=s.t)∨
 (∃s1 v,jy E (some d) f args tys [] s=.go [] (s1.put d v)∧jy E (some d) f args tys [] (wt s t2)=.go [] ((wt s1 t2).put d v)∧s1.t=s.t)∨jy E (some d) f args tys [] s=.fail:=by
 unfold jy
 rw[aJ,Qn _ fun i hi=>aO i (by
  obtain⟨x,U,he⟩:=List.mem_map.1 hi
  have:=(List.of_mem_zip U).2
  rw[he]at this;exact this)]
 cases s.aM E.P 0 f with
 | fn g bg=>
   cases q6:s.args E.P (tys.toList.zip args.toList)with
   | none=>exact .inr (.inr rfl)
   | some r=>
     obtain⟨vs,s1⟩:=r
     have aK:=Qm _ q6
     dsimp only[Option.map]
     by_cases ah:args.size=tys.size∧(some d).all (fun d=>decide (d<s.n))=true
     ·have uw:args.size=tys.size∧(some d).all (fun d=>decide (d<(wt s t2).n))=true:=ah
      rw[if_pos ah,if_pos uw]
      cases ad:(vs++bg).any isRef||!bg.isEmpty with
      | true=>exact .inl ⟨_,_,_,_,s1,rfl,rfl,aK⟩
      | false=>
        simp only[Bool.false_eq_true,if_false]
        cases aj:E.bm g (vs++bg)with
        | some v=>exact .inr (.inl ⟨s1,v,rfl,rfl,aK⟩)
        | none=>exact .inl ⟨_,_,_,_,s1,rfl,rfl,aK⟩
     ·have uw:¬(args.size=tys.size∧(some d).all (fun d=>decide (d<(wt s t2).n))=true):=ah
      rw[if_neg ah]
      exact .inr (.inr rfl)
 | _=>exact .inr (.inr rfl)
theorem Qv {d:Nat} {t:TypeId} {u v:V} {s3:ab} (h:pO E.P s d t u=some (v,s3)):pO E.P (wt s t2) d t u=some (v,wt s3 t2)∧s3.t=s.t:=by
 unfold pO at h⊢
 cases u with
 | ptr lv u off=>
   dsimp only at h⊢
   by_cases cG:lv=s.lv
   ·rw[if_pos cG]at h
    rw[if_pos (show lv=(wt s t2).lv from cG)]
    rw[show(wt s t2).b=s.b from rfl]
    cases ad:s.b u with
    | none=>rw[ad]at h;cases h
    | some ob=>
      rw[ad]at h
      cases ob with
      | box cs=>
        dsimp only at h⊢
        split at h
        ·rename_i ah
         rw[if_pos ah]
         generalize cs.getD off .undef=c at h
         cases c with
         | uq sz l=>
           cases l with
           | nil=>cases h
           | cons x l=>
             dsimp only at h⊢
             split at h
             ·rename_i aJ
              rw[if_pos aJ]
              split at h
              ·rename_i aw
               obtain⟨rfl,rfl⟩:=Prod.mk.inj (Option.some.inj h)
               exact⟨rfl,rfl⟩
              ·cases h
             ·cases h
         | _=>cases h
        ·cases h
      | _=>cases h
   ·rw[if_neg cG]at h;cases h
 | _=>cases h
theorem Qw {jV:Bool} {t:TypeId} {u v:V} {s3:ab} (h:hq E.P s jV t u=some (v,s3)):hq E.P (wt s t2) jV t u=some (v,wt s3 t2)∧s3.t=s.t:=by
 unfold hq at h⊢
 cases u with
 | ptr lv u off=>
   dsimp only at h⊢
   rw[pt]
   cases aj:s.ob lv u with
   | none=>rw[aj]at h;cases h
   | some ob=>
     rw[aj]at h
     cases ob with
     | box cs=>
       dsimp only at h⊢
       split at h
       ·rename_i ah
        rw[if_pos ah]
        cases jV with
        | true=>
          simp only[if_true]at h⊢
          obtain⟨rfl,rfl⟩:=Prod.mk.inj (Option.some.inj h)
          exact⟨by rw[q8],lX ..⟩
        | false=>
          simp only[Bool.false_eq_true,if_false]at h⊢
          obtain⟨rfl,rfl⟩:=Prod.mk.inj (Option.some.inj h)
          exact⟨rfl,rfl⟩
       ·cases h
     | _=>cases h
 | imp l=>
   dsimp only at h⊢
   split at h
   ·rename_i ah
    rw[if_pos ah]
    obtain⟨rfl,rfl⟩:=Prod.mk.inj (Option.some.inj h)
    exact⟨rfl,rfl⟩
   ·cases h
 | gA lv u i sz=>
   dsimp only at h⊢
   rw[pt]
   cases aj:s.ob lv u with
   | none=>rw[aj]at h;cases h
   | some ob=>
     rw[aj]at h
     cases ob with
     | arr iv b8 l=>
       dsimp only at h⊢
       split at h
       ·rename_i ah
        rw[if_pos ah]
        obtain⟨rfl,rfl⟩:=Prod.mk.inj (Option.some.inj h)
        exact⟨rfl,rfl⟩
       ·cases h
     | dir b8 l=>
       dsimp only at h⊢
       split at h
       ·rename_i ah
        rw[if_pos ah]
        obtain⟨rfl,rfl⟩:=Prod.mk.inj (Option.some.inj h)
        exact⟨rfl,rfl⟩
       ·cases h
     | _=>cases h
 | _=>cases h
theorem Qx {f:ab→Nat→V→Option (V×ab)} (aJ:∀s id v,f (wt s t2) id v=(f s id v).map fun r=>(r.1,wt r.2 t2)) (M id:Nat):∀(l:List V) (s:ab) (k:Nat),jh f M id (wt s t2) k l=(jh f M id s k l).map fun r=>(r.1,wt r.2 t2):=by
 intro l
 induction l with
 | nil=>intro s k;rfl
 | cons c l ag=>
   intro s k
   unfold jh
   rw[aJ]
   cases f s (id+(k+1)*M) c with
   | none=>rfl
   | some r=>
     obtain⟨bJ,s1⟩:=r
     dsimp only[Option.map]
     rw[ag]
     cases jh f M id s1 (k+1) l<;>rfl
theorem Qy {f:ab→Nat→V→Option (V×ab)} (aJ:∀s id v,f (wt s t2) id v=(f s id v).map fun r=>(r.1,wt r.2 t2)) (M id sz:Nat):∀(l:List V) (s:ab) (i:Nat),jv f M id sz (wt s t2) i l=(jv f M id sz s i l).map fun r=>(r.1,wt r.2 t2):=by
 intro l
 induction l with
 | nil=>intro s i;rfl
 | cons e l ag=>
   intro s i
   unfold jv
   rw[Qx aJ]
   cases jh f M id s (i*sz) e.flat with
   | none=>rfl
   | some r=>
     obtain⟨cs,s1⟩:=r
     dsimp only[Option.map]
     rw[ag]
     cases jv f M id sz s1 (i+1) l<;>rfl
theorem Qz:∀(n:Nat) (s:ab) (id:Nat) (v:V),fb n (wt s t2) id v=(fb n s id v).map fun r=>(r.1,wt r.2 t2):=by
 intro n
 induction n with
 | zero=>
   intro s id v
   cases v with
   | uq sz l=>cases l with
     | nil=>rfl
     | cons x l=>unfold fb;split<;>rfl
   | _=>unfold fb;split<;>rfl
 | succ n ag=>
   intro s id v
   cases v with
   | uq sz l=>
     cases l with
     | nil=>rfl
     | cons x l=>
       unfold fb
       rw[Qy ag]
       cases jv (fb n) (4294967296^(n+1)) id sz s 0 (x::l)with
       | none=>rfl
       | some r=>
         obtain⟨bc,s1⟩:=r
         dsimp only[Option.map]
         show(match s1.b id with | none=>_ | some _=>_)=_
         cases s1.b id<;>rfl
   | _=>unfold fb;split<;>rfl
theorem CW (s:ab) (d:Nat) (v:V):e1 (wt s t2) d v=(e1 s d v).map fun r=>(r.1,wt r.2 t2):=by
 cases v with
 | uq sz l=>
   cases l with
   | nil=>rfl
   | cons x l=>
     unfold e1
     dsimp only
     split
     ·show(match s.b d with | none=>_ | some _=>_)=_
      cases s.b d<;>rfl
     ·exact Qz ..
 | nw l=>
   unfold e1
   dsimp only
   split
   ·show(match s.b d with | none=>_ | some _=>_)=_
    cases s.b d<;>rfl
   ·rfl
 | _=>rfl
theorem Hq:∀(l:List V) (s:ab) (d:Nat),fA (wt s t2) d l=(fA s d l).map fun r=>(r.1,wt r.2 t2):=by
 intro l
 induction l with
 | nil=>intro s d;rfl
 | cons c l ag=>
   intro s d
   unfold fA
   rw[ag]
   cases fA s (d+1) l with
   | none=>rfl
   | some r=>
     obtain⟨bc,s1⟩:=r
     dsimp only[Option.map]
     rw[CW]
     cases e1 s1 d c<;>rfl
theorem QA {l bc:List V} {s s1:ab} {d:Nat} (h:fA s d l=some (bc,s1)):s1.t=s.t:=by
 have e:=Hq (t2:=s.t) l s d
 have a7:wt s s.t=s:=rfl
 rw[a7,h]at e
 have:=congrArg (fun x:Option (List V×ab)=>x.map fun r=>r.2.t) e
 exact Option.some.inj this
theorem QB (s:ab) (d:Nat) (v:V):jw (wt s t2) d v=(jw s d v).map fun r=>(r.1,wt r.2 t2):=by
 unfold jw
 split
 ·split
  ·exact CW ..
  ·rfl
 ·exact CW ..
theorem Hr:∀(l:List V) (s:ab) (d:Nat),hr (wt s t2) d l=(hr s d l).map fun r=>(r.1,wt r.2 t2):=by
 intro l
 induction l with
 | nil=>intro s d;rfl
 | cons c l ag=>
   intro s d
   unfold hr
   rw[ag]
   cases hr s (d+1) l with
   | none=>rfl
   | some r=>
     obtain⟨bc,s1⟩:=r
     dsimp only[Option.map]
     rw[QB]
     cases jw s1 d c<;>rfl
theorem QC {l bc:List V} {s s1:ab} {d:Nat} (h:hr s d l=some (bc,s1)):s1.t=s.t:=by
 have e:=Hr (t2:=s.t) l s d
 have a7:wt s s.t=s:=rfl
 rw[a7,h]at e
 have:=congrArg (fun x:Option (List V×ab)=>x.map fun r=>r.2.t) e
 exact Option.some.inj this
theorem QD (s:ab) (d:Nat) (v:V):kv (wt s t2) d v=(kv s d v).map fun r=>(r.1,wt r.2 t2):=by
 unfold kv
 cases v with
 | uq sz l=>
   cases l with
   | nil=>rfl
   | cons x l=>
     dsimp only
     split
     ·rfl
     ·split
      ·show(match s.b d with | none=>_ | some _=>_)=_
       cases s.b d<;>rfl
      ·rfl
 | _=>rfl
theorem Hs:∀(l:List V) (s:ab) (d:Nat),hs (wt s t2) d l=(hs s d l).map fun r=>(r.1,wt r.2 t2):=by
 intro l
 induction l with
 | nil=>intro s d;rfl
 | cons c l ag=>
   intro s d
   unfold hs
   rw[ag]
   cases hs s (d+1) l with
   | none=>rfl
   | some r=>
     obtain⟨bc,s1⟩:=r
     dsimp only[Option.map]
     rw[QD]
     cases kv s1 d c<;>rfl
theorem QE {l bc:List V} {s s1:ab} {d:Nat} (h:hs s d l=some (bc,s1)):s1.t=s.t:=by
 have e:=Hs (t2:=s.t) l s d
 have a7:wt s s.t=s:=rfl
 rw[a7,h]at e
 have:=congrArg (fun x:Option (List V×ab)=>x.map fun r=>r.2.t) e
 exact Option.some.inj this
theorem CX {s1:ab} (hw:iM (E.H s.f) o=true) (cQ:eL E ev o s=some s1) (ft:og o s (wt s t2)):
 eL E ev o (wt s t2)=some (wt s1 fun x=>if aG x (c0 (E.H s.f) o)then s1.t x else t2 x)∧∀x,aG x (c0 (E.H s.f) o)=false→s1.t x=s.t x:=by
 obtain⟨dst,op,ty,pos,af,gd⟩:=o
 have al:=fun(x:Operand) U ty=>og.aM (P:=E.P) (x:=x) ft U ty
 cases op
 case alloc e=>
  cases dst with
  | none=>simp[iM]at hw
  | some d=>
    have ca:jx E.P (E.H s.f) ⟨some d,.alloc e,ty,pos,af,gd⟩ s=some s1:=cQ
    show jx E.P (E.H s.f) ⟨some d,.alloc e,ty,pos,af,gd⟩ (wt s t2)=_∧_
    unfold jx at ca⊢
    dsimp only at ca⊢
    split at ca
    ·rename_i aL
     have CY:d<(wt s t2).n:=aL
     rw[if_pos CY]
     obtain⟨⟨v,s3⟩,J,rfl⟩:=Option.map_eq_some_iff.1 ca
     simp only[bw]at J⊢
     have bH:(wt s t2).b=s.b:=rfl
     have aR:(wt s t2).lv=s.lv:=rfl
     rw[bH,aR]
     split at J
     ·rename_i z ad aD
      split at J
      ·rename_i ai
       obtain⟨rfl,rfl⟩:=Prod.mk.inj (Option.some.inj J)
       rw[if_pos ai]
       refine⟨?_,fun x U=>?_⟩
       ·simp only[Option.map,Option.some.injEq]
        show({t:=ae t2 d _,b:=_,o:=_,r:=_,f:=_,n:=_}:ab)=_
        rw[CV (s3:=s) [d] (by simp[aG]) (fun x U aY=>by simp[aG,aY]at U)]
        rfl
       ·show ae s.t d _ x=s.t x
        unfold ae
        have:x≠d:=by rintro rfl;simp[c0,gD,aG]at U
        rw[if_neg this]
      ·cases J
     ·cases J
    ·cases ca
 case load t a=>
  cases dst with
  | none=>simp[iM]at hw
  | some d=>
    have sK:c0 (E.H s.f) ⟨some d,.load t a,ty,pos,af,gd⟩=[d]:=by simp[c0,gD,ji]
    rw[sK]
    have ca:jx E.P (E.H s.f) ⟨some d,.load t a,ty,pos,af,gd⟩ s=some s1:=cQ
    show jx E.P (E.H s.f) ⟨some d,.load t a,ty,pos,af,gd⟩ (wt s t2)=_∧_
    unfold jx at ca⊢
    dsimp only at ca⊢
    split at ca
    ·rename_i aL
     have CY:d<(wt s t2).n:=aL
     rw[if_pos CY]
     obtain⟨⟨v,s3⟩,J,rfl⟩:=Option.map_eq_some_iff.1 ca
     simp only[bw]at J⊢
     rw[al a (by simp[Op.operands]) 0]
     have alt:(if aG d (E.H s.f).make=true then pO E.P (wt s t2) d t (s.aM E.P 0 a)else hq E.P (wt s t2) (aG d (E.H s.f).take) t (s.aM E.P 0 a))=some (v,wt s3 t2)∧s3.t=s.t:=by
      by_cases hm:aG d (E.H s.f).make=true
      ·rw[if_pos hm]at J
       rw[if_pos hm]
       exact Qv J
      ·rw[if_neg hm]at J
       rw[if_neg hm]
       exact Qw J
     obtain⟨aq,aF⟩:=alt
     rw[aq]
     refine⟨?_,fun x U=>?_⟩
     ·simp only[Option.map,Option.some.injEq]
      show({t:=ae t2 d v,b:=s3.b,o:=s3.o,r:=s3.r,f:=s3.f,n:=s3.n}:ab)=_
      rw[CV (s3:=s3) [d] (by simp[aG]) (fun x U aY=>by simp[aG,aY]at U)]
      rfl
     ·show ae s3.t d v x=s.t x
      unfold ae
      have:x≠d:=by rintro rfl;simp[aG]at U
      rw[if_neg this,aF]
    ·cases ca
 case store t x y=>
  cases dst with
  | some d=>simp[iM]at hw
  | none=>
    have store:∀(mk:ab→Nat→List V→Option (List V×ab)),(∀(l:List V) (s:ab) (t2:Nat→V) (d:Nat),mk (wt s t2) d l=(mk s d l).map fun r=>(r.1,wt r.2 t2))→(∀{l bc:List V} {s s1:ab} {d:Nat},mk s d l=some (bc,s1)→s1.t=s.t)→lK E.P mk s t y (s.aM E.P 0 x)=some s1→
     lK E.P mk (wt s t2) t y (s.aM E.P 0 x)=some (wt s1 fun z=>if aG z (c0 (E.H s.f) ⟨none,.store t x y,ty,pos,af,gd⟩)then s1.t z else t2 z)∧∀z,aG z (c0 (E.H s.f) ⟨none,.store t x y,ty,pos,af,gd⟩)=false→s1.t z=s.t z:=by
     intro mk QF QG ca
     have fE:(wt s t2).all E.P t y=s.all E.P t y:=xe fun i hi=>ft i (by simp[Op.operands,hi])
     have sK:c0 (E.H s.f) ⟨none,.store t x y,ty,pos,af,gd⟩=tmpsOf [y]:=by simp[c0,gD,ji]
     rw[sK]
     have q9:∀i,aG i (tmpsOf [y])=true→t2 i=s.t i:=by
      intro i hi
      cases y with
      | tmp j=>
        have:i=j:=by simpa[tmpsOf,aG]using hi
        subst this
        exact ft i (by simp[Op.operands])
      | _=>simp[tmpsOf,aG]at hi
     have a7:(wt s t2).drop y=wt (s.drop y) (fun x=>if aG x (tmpsOf [y])then(t2 x).view else t2 x):=by rw[drop_eq,drop_eq];rfl
     generalize s.aM E.P 0 x=u at ca
     unfold lK at ca⊢
     cases u with
     | ptr lv u off=>
       dsimp only at ca⊢
       rw[fE]
       by_cases ah:lv=s.lv∧(s.all E.P t y).flat.length=az E.P t
       ·rw[if_pos ah]at ca
        rw[if_pos (show lv=(wt s t2).lv∧(s.all E.P t y).flat.length=az E.P t from ah)]
        have key:(match mk (s.drop y) (s.n+64*u+off) (s.all E.P t y).flat with
         | some (gr,s1)=>match s1.ob lv u with
           | some (.box cs)=>if off+az E.P t≤cs.length∧az E.P t≠0∧gr.all mr∧gr.all (fS lv)then some (s1.c6 lv u (.box (eg cs off gr)))else none
           | _=>none
         | none=>none)=some s1→(match mk ((wt s t2).drop y) ((wt s t2).n+64*u+off) (s.all E.P t y).flat with
         | some (gr,s1)=>match s1.ob lv u with
           | some (.box cs)=>if off+az E.P t≤cs.length∧az E.P t≠0∧gr.all mr∧gr.all (fS lv)then some (s1.c6 lv u (.box (eg cs off gr)))else none
           | _=>none
         | none=>none)=some (wt s1 fun x=>if aG x (tmpsOf [y])then s1.t x else t2 x)∧∀x,aG x (tmpsOf [y])=false→s1.t x=s.t x:=by
         intro ay
         rw[a7,show(wt s t2).n=s.n from rfl,QF]
         cases hm:mk (s.drop y) (s.n+64*u+off) (s.all E.P t y).flat with
         | none=>rw[hm]at ay;cases ay
         | some r=>
           obtain⟨gr,s3⟩:=r
           rw[hm]at ay
           have ar:s3.t=(s.drop y).t:=QG hm
           dsimp only[Option.map]at ay⊢
           rw[pt]
           split at ay
           ·rename_i cs aj
            split at ay
            ·rename_i uw
             rw[if_pos uw]
             obtain rfl:=Option.some.inj ay
             refine⟨?_,fun z aD=>?_⟩
             ·rw[q8,lX,ar,mH]
              congr 2
              funext z
              by_cases aD:aG z (tmpsOf [y])=true
              ·simp[aD,q9 z aD]
              ·simp[aD]
             ·rw[lX,ar,mH]
              dsimp only
              rw[aD];rfl
            ·cases ay
           ·cases ay
        split at ca
        ·cases ca
        ·cases ca
        ·exact key ca
       ·rw[if_neg ah]at ca;cases ca
     | _=>cases ca
    by_cases xi:oY (E.H s.f).make x=true
    ·have ca:lK E.P fA s t y (s.aM E.P 0 x)=some s1:=by
      have bn:gu E.P (E.H s.f) (.store t x y) s=some s1:=cQ
      simp only[gu,xi,if_true]at bn
      exact bn
     show gu E.P (E.H (wt s t2).f) (.store t x y) (wt s t2)=_∧_
     simp only[gu,show oY (E.H (wt s t2).f).make x=true from xi,if_true]
     rw[al x (by simp[Op.operands])]
     exact store fA (fun l s t2 d=>Hq l s d) (fun h=>QA h) ca
    by_cases CZ:rX (E.H s.f).make x=true
    ·have xj:oY (E.H s.f).make x=false:=by simpa using xi
     have ca:lK E.P hr s t y (s.aM E.P 0 x)=some s1:=by
      have bn:gu E.P (E.H s.f) (.store t x y) s=some s1:=cQ
      simp only[gu,xj,CZ,if_true,Bool.false_eq_true,if_false]at bn
      exact bn
     show gu E.P (E.H (wt s t2).f) (.store t x y) (wt s t2)=_∧_
     simp only[gu,show oY (E.H (wt s t2).f).make x=false from xj,show rX (E.H (wt s t2).f).make x=true from CZ,if_true,Bool.false_eq_true,if_false]
     rw[al x (by simp[Op.operands])]
     exact store hr (fun l s t2 d=>Hr l s d) (fun h=>QC h) ca
    have zS:rX (E.H s.f).make x=false:=by simpa using CZ
    by_cases C0:tT (E.H s.f).make x=true
    ·have xj:oY (E.H s.f).make x=false:=by simpa using xi
     have ca:lK E.P hs s t y (s.aM E.P 0 x)=some s1:=by
      have bn:gu E.P (E.H s.f) (.store t x y) s=some s1:=cQ
      simp only[gu,xj,zS,C0,if_true,Bool.false_eq_true,if_false]at bn
      exact bn
     show gu E.P (E.H (wt s t2).f) (.store t x y) (wt s t2)=_∧_
     simp only[gu,show oY (E.H (wt s t2).f).make x=false from xj,show rX (E.H (wt s t2).f).make x=false from zS,show tT (E.H (wt s t2).f).make x=true from C0,if_true,Bool.false_eq_true,if_false]
     rw[al x (by simp[Op.operands])]
     exact store hs (fun l s t2 d=>Hs l s d) (fun h=>QE h) ca
    have Ht:tT (E.H s.f).make x=false:=by simpa using C0
    have iQ:oY (E.H s.f).make x=false:=by simpa using xi
    have QH:oY (E.H (wt s t2).f).make x=false:=iQ
    have ca:rV E.P s t y (s.aM E.P 0 x)=some s1:=by
     have bn:gu E.P (E.H s.f) (.store t x y) s=some s1:=cQ
     simp only[gu,iQ,zS,Ht,Bool.false_eq_true,if_false]at bn
     exact bn
    show gu E.P (E.H (wt s t2).f) (.store t x y) (wt s t2)=_∧_
    simp only[gu,QH,show rX (E.H (wt s t2).f).make x=false from zS,show tT (E.H (wt s t2).f).make x=false from Ht,Bool.false_eq_true,if_false]
    rw[al x (by simp[Op.operands])]
    have fE:(wt s t2).all E.P t y=s.all E.P t y:=xe fun i hi=>ft i (by simp[Op.operands,hi])
    have sK:c0 (E.H s.f) ⟨none,.store t x y,ty,pos,af,gd⟩=tmpsOf [y]:=by simp[c0,gD,ji]
    rw[sK]
    have q9:∀i,aG i (tmpsOf [y])=true→t2 i=s.t i:=by
     intro i hi
     cases y with
     | tmp j=>
       have:i=j:=by simpa[tmpsOf,aG]using hi
       subst this
       exact ft i (by simp[Op.operands])
     | _=>simp[tmpsOf,aG]at hi
    generalize s.aM E.P 0 x=u at ca
    unfold rV at ca⊢
    cases u with
    | ptr lv u off=>
      dsimp only at ca⊢
      rw[pt,fE]
      cases aj:s.ob lv u with
      | none=>rw[aj]at ca;cases ca
      | some ob=>
        rw[aj]at ca
        cases ob with
        | box cs=>
          dsimp only at ca⊢
          split at ca
          ·rename_i ah
           rw[if_pos ah]
           have fin:some ((s.drop y).c6 lv u (.box (eg cs off (s.all E.P t y).flat)))=some s1→some (((wt s t2).drop y).c6 lv u (.box (eg cs off (s.all E.P t y).flat)))=some (wt s1 fun x=>if aG x (tmpsOf [y])then s1.t x else t2 x)∧∀x,aG x (tmpsOf [y])=false→s1.t x=s.t x:=by
            intro h
            obtain rfl:=Option.some.inj h
            have a7:(wt s t2).drop y=wt (s.drop y) (fun x=>if aG x (tmpsOf [y])then(t2 x).view else t2 x):=by rw[drop_eq,drop_eq];rfl
            refine⟨?_,fun z aD=>?_⟩
            ·rw[a7,q8,lX,mH]
             congr 2
             funext z
             by_cases aD:aG z (tmpsOf [y])=true
             ·simp[aD,q9 z aD]
             ·simp[aD]
            ·rw[lX,mH]
             dsimp only
             rw[aD];rfl
           split at ca
           ·cases ca
           ·cases ca
           ·rename_i J aa
            exact fin ca
          ·cases ca
        | _=>cases ca
    | gA lv u i sz=>
      dsimp only at ca⊢
      have o5:(match s.tree E.P t y with
       | some (v,s1)=>match s1.ob lv u with
         | some (.arr false b8 l)=>if sz=az E.P t∧b8=sz∧v.flat.length=sz∧sz≠0∧i<l.length then some (s1.c6 lv u (.arr false sz (l.set i v)))else none
         | some (.dir b8 l)=>if sz=az E.P t∧b8=sz∧v.flat.length=sz∧sz≠0∧i<l.length then some (s1.c6 lv u (.dir sz (l.set i v)))else none
         | _=>none
       | none=>none)=some s1→(match (wt s t2).tree E.P t y with
       | some (v,s1)=>match s1.ob lv u with
         | some (.arr false b8 l)=>if sz=az E.P t∧b8=sz∧v.flat.length=sz∧sz≠0∧i<l.length then some (s1.c6 lv u (.arr false sz (l.set i v)))else none
         | some (.dir b8 l)=>if sz=az E.P t∧b8=sz∧v.flat.length=sz∧sz≠0∧i<l.length then some (s1.c6 lv u (.dir sz (l.set i v)))else none
         | _=>none
       | none=>none)=some (wt s1 fun x=>if aG x (tmpsOf [y])then s1.t x else t2 x)∧∀x,aG x (tmpsOf [y])=false→s1.t x=s.t x:=by
       clear ca
       intro ca
       rw[Hn (al y (by simp[Op.operands]) t)]
       cases sm:s.tree E.P t y with
       | none=>rw[sm]at ca;cases ca
       | some r=>
         obtain⟨v,s3⟩:=r
         rw[sm]at ca
         dsimp only[Option.map]at ca⊢
         have ar:s3.t=s.t:=by
          unfold ab.tree at sm
          obtain⟨_,_,he⟩:=Option.map_eq_some_iff.1 sm
          obtain⟨_,rfl⟩:=Prod.mk.inj he
          exact CL _
         rw[pt]
         cases aj:s3.ob lv u with
         | none=>rw[aj]at ca;cases ca
         | some ob=>
           rw[aj]at ca
           cases ob with
           | arr iv b8 l=>
             cases iv with
             | true=>cases ca
             | false=>
               dsimp only at ca⊢
               split at ca
               ·rename_i ah
                rw[if_pos ah]
                obtain rfl:=Option.some.inj ca
                refine⟨?_,fun z _=>by rw[lX,ar]⟩
                rw[q8,lX,ar]
                congr 2
                funext z
                split
                ·rename_i aD;exact q9 z aD
                ·rfl
               ·cases ca
           | dir b8 l=>
             dsimp only at ca⊢
             split at ca
             ·rename_i ah
              rw[if_pos ah]
              obtain rfl:=Option.some.inj ca
              refine⟨?_,fun z _=>by rw[lX,ar]⟩
              rw[q8,lX,ar]
              congr 2
              funext z
              split
              ·rename_i aD;exact q9 z aD
              ·rfl
             ·cases ca
           | _=>cases ca
      rw[pt,fE]
      cases aj:s.ob lv u with
      | none=>rw[aj]at ca;exact o5 ca
      | some ob=>
        rw[aj]at ca
        cases ob with
        | lJ b8 l=>
          dsimp only at ca⊢
          split at ca
          ·rename_i ah
           rw[if_pos ah]
           obtain rfl:=Option.some.inj ca
           have a7:(wt s t2).drop y=wt (s.drop y) (fun x=>if aG x (tmpsOf [y])then(t2 x).view else t2 x):=by rw[drop_eq,drop_eq];rfl
           refine⟨?_,fun z aD=>?_⟩
           ·rw[a7,q8,lX,mH]
            congr 2
            funext z
            by_cases aD:aG z (tmpsOf [y])=true
            ·simp[aD,q9 z aD]
            ·simp[aD]
           ·rw[lX,mH]
            dsimp only
            rw[aD];rfl
          ·cases ca
        | _=>exact o5 ca
    | _=>cases ca
 case call c=>
  obtain⟨callee,args,argTypes⟩:=c
  cases callee with
  | value f=>
    cases dst with
    | none=>simp[iM]at hw
    | some d=>
      have sK:c0 (E.H s.f) ⟨some d,.call {callee:=.value f,args:=args,argTypes:=argTypes},ty,pos,af,gd⟩=[d]:=by simp[c0,gD,ji]
      rw[sK]
      obtain⟨xg,oh⟩:aG d (E.H s.f).fI=false∧aG d (E.H s.f).iL=false:=by
       have:=hw
       simp[iM]at this
       exact this.2
      have uS:gB (some d) (E.H s.f).fI=false:=xg
      have uT:gB (some d) (E.H s.f).iL=false:=oh
      have ca:eC E ev (jy E (some d) f args argTypes [] s)=some s1:=by
       rw[←yY uS uT];exact cQ
      show eC E ev (gC E (some d) f args argTypes [] (wt s t2))=_∧_
      rw[yY (s:=wt s t2) uS uT]
      have Hu:∀(s3:ab) (v:V),s3.t=s.t→(wt s3 t2).put d v=wt (s3.put d v) (fun x=>if aG x [d]then(s3.put d v).t x else t2 x)∧∀x,aG x [d]=false→(s3.put d v).t x=s.t x:=by
       intro s3 v ar
       refine⟨?_,fun x U=>?_⟩
       ·show({t:=ae t2 d v,b:=s3.b,o:=s3.o,r:=s3.r,f:=s3.f,n:=s3.n}:ab)=_
        rw[CV (s3:=s3) [d] (by simp[aG]) (fun x U aY=>by simp[aG,aY]at U)]
        rfl
       ·show ae s3.t d v x=s.t x
        unfold ae
        have:x≠d:=by rintro rfl;simp[aG]at U
        rw[if_neg this,ar]
      rcases Qu (E:=E) (s:=s) (t2:=t2) (d:=d) (tys:=argTypes) (al f (by simp[Op.operands,Call.operands]) 0) (fun i hi=>ft i (by simp only[Op.operands,Call.operands];simp;exact .inr (Array.mem_toList_iff.1 hi)))with⟨g,vs,outer,plain,s3,aR,a7,cj⟩ | ⟨s3,v,aR,a7,cj⟩ | aR
      ·rw[aR]at ca
       rw[a7]
       unfold eC at ca⊢
       dsimp only at ca⊢
       split at ca
       ·cases ca
       ·split at ca
        ·cases ca
        ·rename_i r aI
         obtain rfl:=Option.some.inj ca
         unfold h1
         obtain⟨plain,uM⟩:=plain
         obtain⟨cB,dJ⟩:=Hu s3 (wu uM r.1) cj
         cases plain
         ·simp only[Bool.false_eq_true,if_false]
          refine⟨?_,dJ⟩
          show some ({(wt s3 t2).put d (wu uM r.1)with b:=r.2.headD bk,o:=r.2.tail}:ab)=_
          rw[cB]
          rfl
         ·simp only[if_true]
          exact⟨congrArg some cB,dJ⟩
      ·rw[aR]at ca
       rw[a7]
       obtain rfl:=Option.some.inj (show some (s3.put d v)=some s1 from ca)
       obtain⟨cB,dJ⟩:=Hu s3 v cj
       exact⟨congrArg some cB,dJ⟩
      ·rw[aR]at ca;cases ca
  | _=>simp[iM]at hw
 all_goals (simp[iM]at hw;done)
end Go.aB
