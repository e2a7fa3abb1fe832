/- Joins: the reference's. Repetitions: the reference's. Morphisms, the empty expression, validity of expressions. Validity of expressions. Expressions compiled, both. Expressions compiled: the program's whole. Expressions compiled: the reference's. Lines of programs: the program's. Programs: the program's validity. -/
import Derived.Test.YtlecddobnippmaaGreatEvX
import Derived.Test.YtlecddobnippmaaGreatEvP
import Derived.Test.YtlecddobnippmaaGreatEvR
import Derived.Test.YtlecddobnippmaaGreatEvV
set_option linter.unusedVariables false
set_option linter.unusedSimpArgs false
namespace Go.aB
open Go Go.Proofs
set_option maxRecDepth 10000
set_option maxHeartbeats 4000000
theorem wa {α:Type} [DecidableEq α] (l:List α) (x:α):(ins l x).length≤l.length+1:=by
 unfold ins
 by_cases h:x∈l
 ·rw[if_pos h];omega
 ·rw[if_neg h,List.length_append];simp
theorem EY (d:ao) (h:bG d):run ak 90 [d.enc] []=some (.bool true,[]):=by
 have:=asc d h.ok (by have:=h.le;omega)
 rw[decide_eq_true h.pos,decide_eq_true h.le]at this
 exact this
theorem Lp {n:Nat} (h:n≤40) {S:Nat} (a8:S<2^n):S<2^40:=Nat.lt_of_lt_of_le a8 (Nat.pow_le_pow_right (by decide) h)
theorem apk (a:ao) (h:bB a 0=false):(dO (arS a (0,0)).2).map aQ=[]:=by
 unfold arS
 rw[if_neg (by rw[h];decide)]
 have:dO 0=[]:=by decide
 rw[this];rfl
theorem apl (a:ao) (h:bB a 0=true):(dO (arS a (0,0)).2).map aQ=[.int .i64 0]:=by
 unfold arS
 rw[if_pos h]
 have:dO (0 ||| 1)=[0]:=by decide
 rw[this];rfl
theorem apm (a b:ao) (aO:bG a) (ad:bG b):run ak 118 [a.enc,b.enc] []=some (bz (oF a b),[]):=by
 rw[Vx aO ad]
 have dF:=EY a aO
 have hH:=EY b ad
 have oP:(0:Int)<a.accept.length:=by have:=aO.pos;omega
 have g0:∀v:V,(a.accept.map B).getD 0 v=B (bB a 0):=fun v=>kH aO.pos v
 have dH:=fun(ai:(lk a b).length≤400)=>EL (er (gS a b) (oH b) (lk a b)) (kk ai).1 (kk ai).2.1 (by have:=(kk (acc:=oH b) ai).2.2;unfold lk;omega)
 generalize cn:(some (bz (if(lk a b).length≤400 then fw (er (gS a b) (oH b) (lk a b))else none),[]):Option (V×List (Nat→Option ax)))=cO
 have bE:=apk a
 have s1:=apl a
 have n9:th a b (nD (arS a (0,0))):=tg (x:=(0,0)) ad ⟨aO.pos,Nat.two_pow_pos _⟩
 have cK:eX (gS a b) 400 (nD (arS a (0,0)))=lk a b:=rfl
 have es:gy (nD (arS a (0,0)))=.agg [.int .i64 0,.slc false 1 ((dO (arS a (0,0)).2).map aQ),.bool false]:=rfl
 generalize Bi:(dO (arS a (0,0)).2).map aQ=W at bE s1 es
 generalize nD (arS a (0,0))=st at n9 cK es
 simp only[ao.enc]at dF hH
 rw[run_eq ak 118 _ _ Tryz.func118 (by decide+kernel) rfl (show 2≤_ by decide)]
 dsimp only[Tryz.f118]
 have wb:∀b,bB a 0=b→[V.agg [V.int IntKind.i64 0,V.slc false 1 (if b=true then[.int .i64 0]else[]),V.bool false]]=[st].map gy:=by
  rintro b rfl
  rw[List.map_cons,List.map_nil,es]
  cases h:bB a 0
  ·rw[bE h];rfl
  ·rw[s1 h];rfl
 have yz:∀b,bB a 0=b→[V.int IntKind.i64 0,V.slc true 1 (if b=true then[.int .i64 0]else[]),V.bool false]=[V.int IntKind.i64 0,V.slc true 1 W,V.bool false]:=by
  rintro b rfl
  cases h:bB a 0
  ·rw[bE h];rfl
  ·rw[s1 h];rfl
 cases du:bB a 0
 all_goals
  have wb:=wb _ du
  have yz:=yz _ du
  simp only[if_true,if_false,Bool.false_eq_true]at yz wb
  rw[du]at g0
  simp only[go_sem,dF,hH,oP,g0,Bool.not_true]
  rw[yz,wb]
  clear yz wb g0 bE s1 du dF hH oP Bi es
  refine cz (fun p:Nat×List fh=>p.1≤p.2.length∧p.2.length≤400∧(∀x∈p.2,th a b x)∧eF (gS a b) (400+1-p.1) p.2 p.1=lk a b) (fun p=>{t:=ae (ae (ae (ae (ae (ae bH 9 (.int .i64 p.1)) 8 (.ptr 0 8 0)) 7 (.slc true 3 (p.2.map gy))) 4 (.ptr 0 4 0)) 3 (.ptr 0 3 0)) 2 (.ptr 0 2 0),b:=ae (ae (ae (ae (ae bk 8 (some (ax.box [.slc true 1 (((lk a b).take p.1).map (kK (oH b))),.slc true 1 (((lk a b).take p.1).map (kL (gS a b) (lk a b)))]))) 6 (some (ax.box [.int .i64 0,.slc true 1 W,.bool false]))) 4 (some (ax.box [.slc true 1 [],.slc true 1 []]))) 3 (some (ax.box [.slc false 1 (b.accept.map B),.slc false 1 (b.next.map bu)]))) 2 (some (ax.box [.slc false 1 (a.accept.map B),.slc false 1 (a.next.map bu)])),o:=[],r:=#[ResultVar.cell 4 31,ResultVar.tmp 5],f:=118,n:=119}) (fun _=>cO) (fun p=>401-p.1) ?_ (0,[st]) ⟨Nat.zero_le _,by show 1≤400;decide,by simpa using n9,cK⟩
  generalize lk a b=L at*
  rintro⟨i,l⟩ ⟨hi,arQ,lC,iO⟩ ag
  dsimp only at hi arQ lC iO⊢
  by_cases h:i<l.length
  rotate_left
  ·have aq:¬(i:Int)<l.length:=by omega
   rw[ki h]at iO
   subst iO
   have dH:=dH arQ
   rw[if_pos arQ]at cn
   rw[List.take_of_length_le (by omega),xV,xW]
   have hex:(er (gS a b) (oH b) l).enc=.agg [.slc false 1 ((l.map (oH b)).map B),.slc false 1 ((l.map fun x=>kJ l (gS a b x)).map bu)]:=rfl
   rw[hex]at dH
   generalize fw (er (gS a b) (oH b) l)=r at dH cn
   subst cn
   cases r with
   | none=>simp only[go_sem,aq,dH,bz]
   | some e=>simp only[go_sem,aq,dH,bz,ao.enc]
  have aq:(i:Int)<l.length:=by omega
  have b1:=cr (n:=i) (by omega)
  have jR:=lC _ (List.getElem_mem h)
  have aR:400+1-i=(400+1-(i+1))+1:=by omega
  rw[aR,lb h]at iO
  have qu:L.take (i+1)=L.take i++[l[i]]:=by
   have arM:l <+: L:=by rw[←iO];exact(fG _ _).trans (iS _ _ _ _)
   rw[s8 arM h]
   congr 1
   obtain⟨m,rfl⟩:=arM
   rw[List.take_append_of_le_length (by omega)]
  have fe:(L.take i).length=i:=by
   have arM:l <+: L:=by rw[←iO];exact(fG _ _).trans (iS _ _ _ _)
   have:=arM.length_le
   rw[List.length_take];omega
  have nJ:b0 l (gS a b l[i]) <+: L:=by rw[←iO];exact iS _ _ _ _
  have lD:=Vy aO ad _ jR
  have yA:∀y∈b0 l (gS a b l[i]),th a b y:=fun x U=>by
   rcases la.1 U with U | rfl | rfl | rfl
   ·exact lC x U
   ·exact lD.1
   ·exact lD.2.1
   ·exact lD.2.2
  have a1:=fun(hlen:(b0 l (gS a b l[i])).length≤400)=>ag (i+1,b0 l (gS a b l[i])) ⟨Nat.le_trans h (fG _ _).length_le,hlen,yA,iO⟩ (by show 401-(i+1)<401-i;omega)
  dsimp only at a1
  clear ag
  rw[qu,List.map_append,List.map_append,List.map_cons,List.map_nil,List.map_cons,List.map_nil]at a1
  have mh:kK (oH b) l[i]=.bool (jr b l[i].2.1):=rfl
  have mi:kL (gS a b) L l[i]=.slc false 1 [aQ (cm L (gS a b l[i]).1),aQ (cm L (gS a b l[i]).2.1),aQ (cm L (gS a b l[i]).2.2)]:=rfl
  rw[mh,mi]at a1
  clear mh mi
  have mU:=fun j au=>Vv a b l[i] (i:=j) au
  obtain⟨mV,si⟩:∃mV,mV=b0 l (gS a b l[i]):=⟨_,rfl⟩
  have lV:∀(m:List fh),l <+: m→∀v:V,(m.map gy).getD i v=.agg [.int .i64 l[i].1,.slc false 1 ((dO l[i].2.1).map aQ),.bool l[i].2.2]:=by
   rintro m ⟨r,rfl⟩ v
   rw[List.map_append,List.getD_eq_getElem?_getD,List.getElem?_append_left (by rw[List.length_map];exact h),List.getElem?_map,List.getElem?_eq_getElem h]
   rfl
  have ra:((l[i].1:Nat):Int)<a.next.length:=by have:=jR.1;rw[aO.ok.1];omega
  have Bj:∀v:V,(a.next.map bu).getD l[i].1 v=bu (a.aN l[i].1):=fun v=>hW (by rw[aO.ok.1];exact jR.1) v
  have g3:=fun j (au:j<3)=>AL (a.aN l[i].1) au
  have EZ:=fun j (au:j<3)=>xZ (qk aO.ok l[i].1 jR.1) au
  have fc:=fun j (au:j<3)=>Ln b ad.ok ad.le l[i].2.1 j au jR.2
  have qZ:=fun j (au:j<3)=>mN ad.ok au l[i].2.1
  have any:=EX b ad.le l[i].2.1 jR.2
  generalize Cn:l[i]=y at*
  generalize gS a b y=aS at*
  simp only[ao.enc]at fc any
  generalize jr b y.2.1=AA at*
  simp only[go_sem,aq]
  refine cz (fun j:Nat=>j≤3) (fun j=>{t:=ae (ae (ae (ae (ae (ae (ae (ae bH 11 (.int .i64 j)) 10 (.slc true 1 (((bD aS).take j).map (hh L)))) 9 (.int .i64 i)) 8 (.ptr 0 8 0)) 7 (.slc true 3 ((((bD aS).take j).foldl ins l).map gy))) 4 (.ptr 0 4 0)) 3 (.ptr 0 3 0)) 2 (.ptr 0 2 0),b:=ae (ae (ae (ae (ae bk 8 (some (ax.box [.slc true 1 ((L.take i).map (kK (oH b))),.slc true 1 ((L.take i).map (kL (gS a b) L))]))) 6 (some (ax.box [.int .i64 0,.slc true 1 W,.bool false]))) 4 (some (ax.box [.slc true 1 [],.slc true 1 []]))) 3 (some (ax.box [.slc false 1 (b.accept.map B),.slc false 1 (b.next.map bu)]))) 2 (some (ax.box [.slc false 1 (a.accept.map B),.slc false 1 (a.next.map bu)])),o:=[],r:=#[ResultVar.cell 4 31,ResultVar.tmp 5],f:=118,n:=119}) (fun _=>cO) (fun j=>3-j) ?_ 0 (Nat.zero_le _)
  intro j au lA
  by_cases aZ:j<3
  rotate_left
  ·obtain rfl:j=3:=by omega
   have cj:((bD aS).take 3).foldl ins l=b0 l aS:=rfl
   have da:((bD aS).take 3).map (hh L)=[aQ (cm L aS.1),aQ (cm L aS.2.1),aQ (cm L aS.2.2)]:=rfl
   rw[cj,da]
   have gV:(i:Int)<(b0 l aS).length:=by have:=(fG l aS).length_le;omega
   have fH:=lV _ (fG l aS)
   have aW:¬((3:Nat):Int)<3:=by omega
   have aT:(i+1)*1≤140737488355328:=by omega
   have a2:(i+1)*24≤140737488355328:=by omega
   by_cases mC:(b0 l aS).length≤400
   ·have cp:=a1 mC
    have tE:¬((b0 l aS).length:Int)>400:=by omega
    simp only[go_sem,aW,tE]
    rw[arR]
    rotate_left
    ·kernel_rfl
    simp only[go_sem,still,eq_self,gV,fH,any,fe,aT,a2,b1]
    exact cp
   ·have tE:((b0 l aS).length:Int)>400:=by omega
    have lB:¬L.length≤400:=by have:=nJ.length_le;omega
    rw[if_neg lB]at cn
    subst cn
    simp only[go_sem,aW,tE,bz]
  have aF:(j:Int)<3:=by omega
  have fX:=cr (n:=j) (by omega)
  have jm:j<(bD aS).length:=by rw[kj];exact aZ
  have dc:((bD aS).take (j+1)).foldl ins l <+: b0 l aS:=by
   rw[←AF]
   have e:(bD aS).foldl ins l=((bD aS).drop (j+1)).foldl ins (((bD aS).take (j+1)).foldl ins l):=by
    rw[←List.foldl_append,List.take_append_drop]
   rw[e]
   exact lg _ _
  have cp:=lA (j+1) (by omega) (by omega)
  rw[pE _ _ jm]at dc cp
  rw[nz jm,List.map_append,List.map_cons,List.map_nil]at cp
  have jJ:i<(((bD aS).take j).foldl ins l).length:=Nat.lt_of_lt_of_le h (lg _ _).length_le
  have gV:(i:Int)<(((bD aS).take j).foldl ins l).length:=by omega
  have fH:=lV _ (lg ((bD aS).take j) l)
  have qv:hh L (bD aS)[j]=.int .i64 (cm L (bD aS)[j]:Nat):=rfl
  rw[qv]at cp
  have kq:cm L (bD aS)[j]=cm (ins (((bD aS).take j).foldl ins l) (bD aS)[j]) (bD aS)[j]:=AG (dc.trans nJ) (k9 _ _)
  rw[kq]at cp
  have qz:∀z∈ins (((bD aS).take j).foldl ins l) (bD aS)[j],z.2.1<2^40:=fun z aD=>Lp ad.le (yA z (dc.subset aD)).2
  have hlen:(ins (((bD aS).take j).foldl ins l) (bD aS)[j]).length≤1048576:=by
   have J:=dc.length_le
   have aa:(b0 l aS).length≤l.length+3:=by
    have:=wa l aS.1
    have:=wa (ins l aS.1) aS.2.1
    have:=wa (ins (ins l aS.1) aS.2.1) aS.2.2
    show(ins (ins (ins l aS.1) aS.2.1) aS.2.2).length≤_
    omega
   omega
  have fo:(((bD aS).take j).map (hh L)).length=j:=by rw[List.length_map,List.length_take,kj];omega
  have aT:(j+1)*8≤140737488355328:=by omega
  have nK:=mU j aZ
  clear kq lA dc mU
  generalize ((bD aS).take j).foldl ins l=m at*
  generalize (bD aS)[j]=z at*
  generalize ((bD aS).take j).map (hh L)=row at*
  have g3:=g3 j aZ
  have EZ:=EZ j aZ
  have fc:=fc j aZ
  have qZ:=qZ j aZ
  have jc:((iI (a.aN y.1) j:Nat):Int)<a.accept.length:=by omega
  have lu:∀v:V,(a.accept.map B).getD (iI (a.aN y.1) j) v=B (bB a (iI (a.aN y.1) j)):=fun v=>kH EZ v
  unfold arS at nK
  dsimp only at nK
  have ml:=EW (fP b y.2.1 j) 0 (by decide)
  have E0:2^0=1:=rfl
  rw[E0]at ml
  have qy:((0:Nat):Int)=0:=rfl
  rw[qy]at ml
  generalize a.aN y.1=an at*
  generalize iI an j=E1 at*
  generalize fP b y.2.1 j=M at*
  have iP:m <+: ins m z:=ig m z
  have f1:=Bh m z (by have:=iP.length_le;omega) (fun w hw=>qz w (iP.subset hw)) (qz z (k9 _ _))
  have f2:=Bh (ins m z) z hlen qz (qz z (k9 _ _))
  rw[if_pos (k9 _ _)]at f2
  have hQ:(ins m z).map gy=if z∈m then m.map gy else m.map gy++[gy z]:=by
   unfold ins
   by_cases aD:z∈m
   ·rw[if_pos aD,if_pos aD]
   ·rw[if_neg aD,if_neg aD,List.map_append];rfl
  have hB:=x1 (cm (ins m z) z)
  have yB:z∈m→cm (ins m z) z=cm m z:=fun aD=>by unfold ins;rw[if_pos aD]
  have kS:(m.length+1)*40≤140737488355328:=by
   have:=iP.length_le
   omega
  generalize apn:cm (ins m z) z=IX at*
  generalize ins m z=mm at*
  have jM:∀tF,z=(E1,tF,false)→gy z=.agg [.int .i64 E1,.slc false 1 ((dO tF).map aQ),.bool false]:=by
   rintro tF rfl;rfl
  cases ah:bB a E1
  ·rw[ah]at lu nK
   have jM:=jM M (by rw[nK,if_neg (by decide)];rfl)
   rw[jM]at f1 f2 hQ
   by_cases aD:z∈m
   ·rw[if_pos aD,←yB aD]at f1
    rw[if_pos aD]at hQ
    rw[hQ]at f2 cp
    simp only[go_sem,aF]
    rw[arR]
    rotate_left
    ·kernel_rfl
    simp (maxSteps:=1000000) only[go_sem,still,eq_self,gV,fH,ra,Bj,g3,aF,fc,jc,lu,f1,hB,fo,aT,fX]
    exact cp
   ·rw[if_neg aD]at f1
    rw[if_neg aD]at hQ
    rw[hQ]at f2 cp
    simp only[go_sem,aF]
    rw[arR]
    rotate_left
    ·kernel_rfl
    simp (maxSteps:=1000000) only[go_sem,still,eq_self,gV,fH,ra,Bj,g3,aF,fc,jc,lu,f1,f2,hB,fo,aT,kS,fX]
    exact cp
  ·rw[ah]at lu nK
   have jM:=jM (M ||| 1) (by rw[nK,if_pos rfl];rfl)
   rw[jM]at f1 f2 hQ
   by_cases aD:z∈m
   ·rw[if_pos aD,←yB aD]at f1
    rw[if_pos aD]at hQ
    rw[hQ]at f2 cp
    simp only[go_sem,aF]
    rw[arR]
    rotate_left
    ·kernel_rfl
    simp (maxSteps:=1000000) only[go_sem,still,eq_self,gV,fH,ra,Bj,g3,aF,fc,jc,lu,ml,f1,hB,fo,aT,fX]
    exact cp
   ·rw[if_neg aD]at f1
    rw[if_neg aD]at hQ
    rw[hQ]at f2 cp
    simp only[go_sem,aF]
    rw[arR]
    rotate_left
    ·kernel_rfl
    simp (maxSteps:=1000000) only[go_sem,still,eq_self,gV,fH,ra,Bj,g3,aF,fc,jc,lu,ml,f1,f2,hB,fo,aT,kS,fX]
    exact cp
end Go.aB
namespace Go.aB
open Go Go.Proofs
set_option maxRecDepth 10000
set_option maxHeartbeats 4000000
theorem apo (d:ao) (aw:bG d):run ak 117 [d.enc] []=some (bz (oG d),[]):=by
 rw[VB aw]
 have dF:=EY d aw
 have dH:=fun(ai:(kO d).length≤400)=>EL (er (gT d) (oI d) (kO d)) (kk ai).1 (kk ai).2.1 (by have:=(kk (acc:=oI d) ai).2.2;unfold kO;omega)
 generalize cn:(some (bz (if(kO d).length≤400 then fw (er (gT d) (oI d) (kO d))else none),[]):Option (V×List (Nat→Option ax)))=cO
 have n9:ti d (0,1,true):=(D3 aw).2
 have cK:eX (gT d) 400 (0,1,true)=kO d:=rfl
 have bU:dO 1=[0]:=by decide
 have es:[gy (0,1,true)]=[.agg [.int .i64 0,.slc false 1 [.int .i64 0],.bool true]]:=by
  unfold gy
  dsimp only
  rw[bU];rfl
 have Bk:[((0,1,true):fh)].map gy=[gy (0,1,true)]:=rfl
 rw[es]at Bk
 clear es
 simp only[ao.enc]at dF
 generalize ((0,1,true):fh)=st at n9 cK Bk
 rw[run_eq ak 117 _ _ Tryz.func117 (by decide+kernel) rfl (show 1≤_ by decide)]
 dsimp only[Tryz.f117]
 simp only[go_sem,dF,Bool.not_true]
 rw[←Bk]
 clear Bk dF
 refine cz (fun p:Nat×List fh=>p.1≤p.2.length∧p.2.length≤400∧(∀x∈p.2,ti d x)∧eF (gT d) (400+1-p.1) p.2 p.1=kO d) (fun p=>{t:=ae (ae (ae (ae (ae bH 6 (.int .i64 p.1)) 5 (.ptr 0 5 0)) 4 (.slc true 3 (p.2.map gy))) 2 (.ptr 0 2 0)) 1 (.ptr 0 1 0),b:=ae (ae (ae bk 5 (some (ax.box [.slc true 1 (((kO d).take p.1).map (kK (oI d))),.slc true 1 (((kO d).take p.1).map (kL (gT d) (kO d)))]))) 2 (some (ax.box [.slc true 1 [],.slc true 1 []]))) 1 (some (ax.box [.slc false 1 (d.accept.map B),.slc false 1 (d.next.map bu)])),o:=[],r:=#[ResultVar.cell 2 31,ResultVar.tmp 3],f:=117,n:=98}) (fun _=>cO) (fun p=>401-p.1) ?_ (0,[st]) ⟨Nat.zero_le _,by show 1≤400;decide,by simpa using n9,cK⟩
 generalize kO d=L at*
 rintro⟨i,l⟩ ⟨hi,arQ,lC,iO⟩ ag
 dsimp only at hi arQ lC iO⊢
 by_cases h:i<l.length
 rotate_left
 ·have aq:¬(i:Int)<l.length:=by omega
  rw[ki h]at iO
  subst iO
  have dH:=dH arQ
  rw[if_pos arQ]at cn
  rw[List.take_of_length_le (by omega),xV,xW]
  have hex:(er (gT d) (oI d) l).enc=.agg [.slc false 1 ((l.map (oI d)).map B),.slc false 1 ((l.map fun x=>kJ l (gT d x)).map bu)]:=rfl
  rw[hex]at dH
  generalize fw (er (gT d) (oI d) l)=r at dH cn
  subst cn
  cases r with
  | none=>simp only[go_sem,aq,dH,bz]
  | some e=>simp only[go_sem,aq,dH,bz,ao.enc]
 have aq:(i:Int)<l.length:=by omega
 have b1:=cr (n:=i) (by omega)
 have jR:=lC _ (List.getElem_mem h)
 have aR:400+1-i=(400+1-(i+1))+1:=by omega
 rw[aR,lb h]at iO
 have qu:L.take (i+1)=L.take i++[l[i]]:=by
  have arM:l <+: L:=by rw[←iO];exact(fG _ _).trans (iS _ _ _ _)
  rw[s8 arM h]
  congr 1
  obtain⟨m,rfl⟩:=arM
  rw[List.take_append_of_le_length (by omega)]
 have fe:(L.take i).length=i:=by
  have arM:l <+: L:=by rw[←iO];exact(fG _ _).trans (iS _ _ _ _)
  have:=arM.length_le
  rw[List.length_take];omega
 have nJ:b0 l (gT d l[i]) <+: L:=by rw[←iO];exact iS _ _ _ _
 have lD:=VC aw _ jR
 have yA:∀y∈b0 l (gT d l[i]),ti d y:=fun x U=>by
  rcases la.1 U with U | rfl | rfl | rfl
  ·exact lC x U
  ·exact lD.1
  ·exact lD.2.1
  ·exact lD.2.2
 have a1:=fun(hlen:(b0 l (gT d l[i])).length≤400)=>ag (i+1,b0 l (gT d l[i])) ⟨Nat.le_trans h (fG _ _).length_le,hlen,yA,iO⟩ (by show 401-(i+1)<401-i;omega)
 dsimp only at a1
 clear ag
 rw[qu,List.map_append,List.map_append,List.map_cons,List.map_nil,List.map_cons,List.map_nil]at a1
 have mh:kK (oI d) l[i]=.bool (l[i].2.2||jr d l[i].2.1):=rfl
 have mi:kL (gT d) L l[i]=.slc false 1 [aQ (cm L (gT d l[i]).1),aQ (cm L (gT d l[i]).2.1),aQ (cm L (gT d l[i]).2.2)]:=rfl
 rw[mh,mi]at a1
 clear mh mi
 have mU:=fun j au=>Vz d l[i] (i:=j) au
 obtain⟨mV,si⟩:∃mV,mV=b0 l (gT d l[i]):=⟨_,rfl⟩
 have lV:∀(m:List fh),l <+: m→∀v:V,(m.map gy).getD i v=.agg [.int .i64 l[i].1,.slc false 1 ((dO l[i].2.1).map aQ),.bool l[i].2.2]:=by
  rintro m ⟨r,rfl⟩ v
  rw[List.map_append,List.getD_eq_getElem?_getD,List.getElem?_append_left (by rw[List.length_map];exact h),List.getElem?_map,List.getElem?_eq_getElem h]
  rfl
 have fc:=fun j (au:j<3)=>Ln d aw.ok aw.le l[i].2.1 j au jR
 have qZ:=fun j (au:j<3)=>mN aw.ok au l[i].2.1
 have any:=EX d aw.le l[i].2.1 jR
 generalize Cn:l[i]=y at*
 generalize gT d y=aS at*
 simp only[ao.enc]at fc any
 generalize jr d y.2.1=AA at*
 simp only[go_sem,aq]
 refine cz (fun j:Nat=>j≤3) (fun j=>{t:=ae (ae (ae (ae (ae (ae (ae bH 8 (.int .i64 j)) 7 (.slc true 1 (((bD aS).take j).map (hh L)))) 6 (.int .i64 i)) 5 (.ptr 0 5 0)) 4 (.slc true 3 ((((bD aS).take j).foldl ins l).map gy))) 2 (.ptr 0 2 0)) 1 (.ptr 0 1 0),b:=ae (ae (ae bk 5 (some (ax.box [.slc true 1 ((L.take i).map (kK (oI d))),.slc true 1 ((L.take i).map (kL (gT d) L))]))) 2 (some (ax.box [.slc true 1 [],.slc true 1 []]))) 1 (some (ax.box [.slc false 1 (d.accept.map B),.slc false 1 (d.next.map bu)])),o:=[],r:=#[ResultVar.cell 2 31,ResultVar.tmp 3],f:=117,n:=98}) (fun _=>cO) (fun j=>3-j) ?_ 0 (Nat.zero_le _)
 intro j au lA
 by_cases aZ:j<3
 rotate_left
 ·obtain rfl:j=3:=by omega
  have cj:((bD aS).take 3).foldl ins l=b0 l aS:=rfl
  have da:((bD aS).take 3).map (hh L)=[aQ (cm L aS.1),aQ (cm L aS.2.1),aQ (cm L aS.2.2)]:=rfl
  rw[cj,da]
  have gV:(i:Int)<(b0 l aS).length:=by have:=(fG l aS).length_le;omega
  have fH:=lV _ (fG l aS)
  have aW:¬((3:Nat):Int)<3:=by omega
  have aT:(i+1)*1≤140737488355328:=by omega
  have a2:(i+1)*24≤140737488355328:=by omega
  by_cases mC:(b0 l aS).length≤400
  ·have cp:=a1 mC
   have tE:¬((b0 l aS).length:Int)>400:=by omega
   simp only[go_sem,aW,tE]
   rw[arR]
   rotate_left
   ·kernel_rfl
   generalize y.2.2=E2 at*
   cases E2
   ·simp only[go_sem,still,eq_self,gV,fH,any,fe,aT,a2,b1]
    exact cp
   ·simp only[go_sem,still,eq_self,gV,fH,fe,aT,a2,b1]
    exact cp
  ·have tE:((b0 l aS).length:Int)>400:=by omega
   have lB:¬L.length≤400:=by have:=nJ.length_le;omega
   rw[if_neg lB]at cn
   subst cn
   simp only[go_sem,aW,tE,bz]
 have aF:(j:Int)<3:=by omega
 have fX:=cr (n:=j) (by omega)
 have jm:j<(bD aS).length:=by rw[kj];exact aZ
 have dc:((bD aS).take (j+1)).foldl ins l <+: b0 l aS:=by
  rw[←AF]
  have e:(bD aS).foldl ins l=((bD aS).drop (j+1)).foldl ins (((bD aS).take (j+1)).foldl ins l):=by
   rw[←List.foldl_append,List.take_append_drop]
  rw[e]
  exact lg _ _
 have cp:=lA (j+1) (by omega) (by omega)
 rw[pE _ _ jm]at dc cp
 rw[nz jm,List.map_append,List.map_cons,List.map_nil]at cp
 have jJ:i<(((bD aS).take j).foldl ins l).length:=Nat.lt_of_lt_of_le h (lg _ _).length_le
 have gV:(i:Int)<(((bD aS).take j).foldl ins l).length:=by omega
 have fH:=lV _ (lg ((bD aS).take j) l)
 have qv:hh L (bD aS)[j]=.int .i64 (cm L (bD aS)[j]:Nat):=rfl
 rw[qv]at cp
 have kq:cm L (bD aS)[j]=cm (ins (((bD aS).take j).foldl ins l) (bD aS)[j]) (bD aS)[j]:=AG (dc.trans nJ) (k9 _ _)
 rw[kq]at cp
 have qz:∀z∈ins (((bD aS).take j).foldl ins l) (bD aS)[j],z.2.1<2^40:=fun z aD=>Lp aw.le (yA z (dc.subset aD))
 have hlen:(ins (((bD aS).take j).foldl ins l) (bD aS)[j]).length≤1048576:=by
  have J:=dc.length_le
  have aa:(b0 l aS).length≤l.length+3:=by
   have:=wa l aS.1
   have:=wa (ins l aS.1) aS.2.1
   have:=wa (ins (ins l aS.1) aS.2.1) aS.2.2
   show(ins (ins (ins l aS.1) aS.2.1) aS.2.2).length≤_
   omega
  omega
 have fo:(((bD aS).take j).map (hh L)).length=j:=by rw[List.length_map,List.length_take,kj];omega
 have aT:(j+1)*8≤140737488355328:=by omega
 have nK:=mU j aZ
 clear kq lA dc mU
 generalize ((bD aS).take j).foldl ins l=m at*
 generalize (bD aS)[j]=z at*
 generalize ((bD aS).take j).map (hh L)=row at*
 have fc:=fc j aZ
 have qZ:=qZ j aZ
 have am:=EX d aw.le (fP d y.2.1 j) qZ
 unfold nA at nK
 simp only[ao.enc]at am
 have ml:=EW (fP d y.2.1 j) 0 (by decide)
 have E0:2^0=1:=rfl
 rw[E0]at ml
 have qy:((0:Nat):Int)=0:=rfl
 rw[qy]at ml
 generalize fP d y.2.1 j=M at*
 have iP:m <+: ins m z:=ig m z
 have f1:=Bh m z (by have:=iP.length_le;omega) (fun w hw=>qz w (iP.subset hw)) (qz z (k9 _ _))
 have f2:=Bh (ins m z) z hlen qz (qz z (k9 _ _))
 rw[if_pos (k9 _ _)]at f2
 have hQ:(ins m z).map gy=if z∈m then m.map gy else m.map gy++[gy z]:=by
  unfold ins
  by_cases aD:z∈m
  ·rw[if_pos aD,if_pos aD]
  ·rw[if_neg aD,if_neg aD,List.map_append];rfl
 have hB:=x1 (cm (ins m z) z)
 have yB:z∈m→cm (ins m z) z=cm m z:=fun aD=>by unfold ins;rw[if_pos aD]
 have kS:(m.length+1)*40≤140737488355328:=by
  have:=iP.length_le
  omega
 generalize apn:cm (ins m z) z=IX at*
 generalize ins m z=mm at*
 have jM:∀tF,z=(0,tF,false)→gy z=.agg [.int .i64 0,.slc false 1 ((dO tF).map aQ),.bool false]:=by
  rintro tF rfl;rfl
 cases ah:jr d M
 ·rw[ah]at am nK
  have jM:=jM M (by rw[nK,if_neg (by decide)])
  rw[jM]at f1 f2 hQ
  by_cases aD:z∈m
  ·rw[if_pos aD,←yB aD]at f1
   rw[if_pos aD]at hQ
   rw[hQ]at f2 cp
   simp only[go_sem,aF]
   rw[arR]
   rotate_left
   ·kernel_rfl
   simp only[go_sem,still,eq_self,gV,fH,aF,fc,am,f1,hB,fo,aT,fX]
   exact cp
  ·rw[if_neg aD]at f1
   rw[if_neg aD]at hQ
   rw[hQ]at f2 cp
   simp only[go_sem,aF]
   rw[arR]
   rotate_left
   ·kernel_rfl
   simp only[go_sem,still,eq_self,gV,fH,aF,fc,am,f1,f2,hB,fo,aT,kS,fX]
   exact cp
 ·rw[ah]at am nK
  have jM:=jM (M ||| 1) (by rw[nK,if_pos rfl])
  rw[jM]at f1 f2 hQ
  by_cases aD:z∈m
  ·rw[if_pos aD,←yB aD]at f1
   rw[if_pos aD]at hQ
   rw[hQ]at f2 cp
   simp only[go_sem,aF]
   rw[arR]
   rotate_left
   ·kernel_rfl
   simp only[go_sem,still,eq_self,gV,fH,aF,fc,am,ml,f1,hB,fo,aT,fX]
   exact cp
  ·rw[if_neg aD]at f1
   rw[if_neg aD]at hQ
   rw[hQ]at f2 cp
   simp only[go_sem,aF]
   rw[arR]
   rotate_left
   ·kernel_rfl
   simp only[go_sem,still,eq_self,gV,fH,aF,fc,am,ml,f1,f2,hB,fo,aT,kS,fX]
   exact cp
end Go.aB
namespace Go.aB
open Go Go.Proofs
set_option maxRecDepth 10000
theorem E3 (s:ByteArray) (al:s.size≤9223372036854775806):run ak 98 [.str s] []=some (.bool (small s),[]):=by
 have f:=rO s al
 rw[run_eq ak 98 _ _ Tryz.func98 (by decide+kernel) rfl (show 1≤_ by decide)]
 dsimp only[Tryz.f98]
 unfold small
 simp only[go_sem,f]
 refine py (fun c=>?_) (fun c=>?_)
 ·by_cases k:s.size≤3
  ·have bI:(s.size:Int)≤3:=by omega
   simp only[go_sem,c,k,bI,Bool.true_and]
  ·have bI:¬(s.size:Int)≤3:=by omega
   simp only[go_sem,c,k,bI,Bool.true_and]
 ·simp only[go_sem,c,Bool.false_and]
theorem Lq (m:cD) (J:m.a.size≤1048576) (aa:m.b.size≤1048576) (ar:m.c.size≤1048576):run ak 75 [m.enc] []=some (.bool (hD m),[]):=by
 have f1:=E3 m.a (by omega)
 have f2:=E3 m.b (by omega)
 have f3:=E3 m.c (by omega)
 rw[run_eq ak 75 _ _ Tryz.func75 (by decide+kernel) rfl (show 1≤_ by decide)]
 dsimp only[Tryz.f75]
 unfold hD
 simp only[go_sem,f1]
 refine py (fun c=>?_) (fun c=>?_)
 ·simp only[go_sem,c,f2,Bool.true_and]
  refine py (fun bJ=>?_) (fun bJ=>?_)
  ·simp only[go_sem,c,bJ,f3,Bool.true_and]
  ·simp only[go_sem,c,bJ,Bool.false_and]
 ·simp only[go_sem,c,Bool.false_and]
theorem Lr (m:cD) (J:m.a.size≤1048576) (aa:m.b.size≤1048576) (ar:m.c.size≤1048576):run ak 49 [m.enc] []=some (.bool (hD m),[]):=by
 have f1:=oN m.a (by omega)
 have f2:=oN m.b (by omega)
 have f3:=oN m.c (by omega)
 have qq:∀s:ByteArray,small s=(decide (¬(s.size:Int)>3)&&isWord s):=by
  intro s
  unfold small
  rw[Bool.and_comm]
  congr 1
  by_cases k:s.size≤3
  ·have bI:¬(s.size:Int)>3:=by omega
   simp[k,bI]
  ·have bI:(s.size:Int)>3:=by omega
   simp[k,bI]
 have art:IntKind.i64.wrap 2=2:=by decide
 have aru:IntKind.i64.wrap 3=3:=by decide
 rw[run_eq ak 49 _ _ Tryz.func49 (by decide+kernel) rfl (show 1≤_ by decide)]
 dsimp only[Tryz.f49]
 unfold hD
 rw[qq,qq,qq]
 by_cases aq:(m.a.size:Int)>3
 ·simp only[go_sem,iter_eq,aq,Bool.false_and,not_true_eq_false,Dn]
 by_cases e2:isWord m.a=true
 rotate_left
 ·have apq:isWord m.a=false:=by simpa using e2
  simp only[go_sem,iter_eq,aq,f1,apq,Bool.false_and,Bool.and_false,not_false_eq_true,Bool.not_false]
 by_cases aF:(m.b.size:Int)>3
 ·simp only[go_sem,iter_eq,aq,f1,e2,aF,Bool.not_true,Bool.false_and,Bool.and_false,Bool.true_and,not_true_eq_false,not_false_eq_true]
 by_cases j2:isWord m.b=true
 rotate_left
 ·have apr:isWord m.b=false:=by simpa using j2
  simp only[go_sem,iter_eq,aq,f1,e2,aF,f2,apr,Bool.not_true,Bool.false_and,Bool.and_false,Bool.true_and,not_false_eq_true,Bool.not_false]
 by_cases aW:(m.c.size:Int)>3
 ·simp only[go_sem,iter_eq,aq,f1,e2,aF,f2,j2,aW,Bool.not_true,Bool.false_and,Bool.and_false,Bool.true_and,not_true_eq_false,not_false_eq_true]
 by_cases qA:isWord m.c=true
 ·simp only[go_sem,iter_eq,aq,f1,e2,aF,f2,j2,aW,f3,qA,Bool.not_true,Bool.true_and,not_false_eq_true]
 ·have aps:isWord m.c=false:=by simpa using qA
  simp only[go_sem,iter_eq,aq,f1,e2,aF,f2,j2,aW,f3,aps,Bool.not_true,Bool.true_and,not_false_eq_true,Bool.not_false]
theorem Ls (r:aU):run ak 73 [r.enc] []=some (.bool (s4 r),[]):=by
 rw[run_eq ak 73 _ _ Tryz.func73 (by decide+kernel) rfl (show 1≤_ by decide)]
 dsimp only[Tryz.f73]
 unfold s4
 simp only[go_sem,toList_nil]
 refine py (fun c=>?_) (fun c=>?_)
 ·simp only[go_sem,c,toList_nil,Bool.true_and]
  refine py (fun bJ=>?_) (fun bJ=>?_)
  ·simp only[go_sem,c,bJ,Bool.true_and]
  ·simp only[go_sem,c,bJ,Bool.false_and]
 ·simp only[go_sem,c,Bool.false_and]
theorem apt (r:aU):run ak 74 [r.enc] []=some (.bool (s4 r),[]):=by
 rw[run_eq ak 74 _ _ Tryz.func74 (by decide+kernel) rfl (show 1≤_ by decide)]
 dsimp only[Tryz.f74]
 unfold s4
 simp only[go_sem,toList_nil]
 refine py (fun c=>?_) (fun c=>?_)
 ·simp only[go_sem,c,toList_nil,Bool.true_and]
  refine py (fun bJ=>?_) (fun bJ=>?_)
  ·simp only[go_sem,c,bJ,Bool.true_and]
  ·simp only[go_sem,c,bJ,Bool.false_and]
 ·simp only[go_sem,c,Bool.false_and]
end Go.aB
namespace Go.aB
open Go Go.Proofs
set_option maxRecDepth 10000
theorem apu (a b:Int):run ak 121 [.int .i64 a,.int .i64 b] []=some (.int .i64 (if a>b then a else b),[]):=by
 rw[run_eq ak 121 _ _ Tryz.func121 (by decide+kernel) rfl (show 2≤_ by decide)]
 dsimp only[Tryz.f121]
 simp only[go_sem]
 refine qf (fun k=>?_) (fun k=>?_)<;>simp only[go_sem,k]
theorem apv (k:Int):run ak 122 [.int .i64 k] []=some (.int .i64 (s5 k),[]):=by
 rw[run_eq ak 122 _ _ Tryz.func122 (by decide+kernel) rfl (show 1≤_ by decide)]
 dsimp only[Tryz.f122]
 unfold s5
 by_cases bf:k=5
 ·subst bf;simp only[go_sem]<;>rfl
 by_cases b4:k=6
 ·subst b4;simp only[go_sem]<;>rfl
 by_cases dh:k=7
 ·subst dh;simp only[go_sem]<;>rfl
 by_cases cH:k=8
 ·subst cH;simp only[go_sem]<;>rfl
 by_cases gk:k=9
 ·subst gk;simp only[go_sem]<;>rfl
 have gm:(k==5)=false:=by simpa using bf
 have iz:(k==6)=false:=by simpa using b4
 have E4:(k==7)=false:=by simpa using dh
 have E5:(k==8)=false:=by simpa using cH
 have E6:(k==9)=false:=by simpa using gk
 simp only[go_sem,gm,iz,E4,E5,E6,bf,b4,dh,cH,gk,or_self]
theorem apw (k:Int):run ak 102 [.int .i64 k] []=some (.int .i64 (jK k),[]):=by
 rw[run_eq ak 102 _ _ Tryz.func102 (by decide+kernel) rfl (show 1≤_ by decide)]
 dsimp only[Tryz.f102]
 unfold jK
 by_cases J:k=1
 ·subst J;simp only[go_sem]<;>rfl
 by_cases aa:k=2
 ·subst aa;simp only[go_sem]<;>rfl
 by_cases ar:k=3
 ·subst ar;simp only[go_sem]<;>rfl
 by_cases aP:k=4
 ·subst aP;simp only[go_sem]<;>rfl
 by_cases bf:k=5
 ·subst bf;simp only[go_sem]<;>rfl
 by_cases b4:k=6
 ·subst b4;simp only[go_sem]<;>rfl
 by_cases dh:k=7
 ·subst dh;simp only[go_sem]<;>rfl
 by_cases cH:k=8
 ·subst cH;simp only[go_sem]<;>rfl
 by_cases gk:k=9
 ·subst gk;simp only[go_sem]<;>rfl
 have bU:(k==1)=false:=by simpa using J
 have cv:(k==2)=false:=by simpa using aa
 have dn:(k==3)=false:=by simpa using ar
 have ed:(k==4)=false:=by simpa using aP
 have gm:(k==5)=false:=by simpa using bf
 have iz:(k==6)=false:=by simpa using b4
 have E4:(k==7)=false:=by simpa using dh
 have E5:(k==8)=false:=by simpa using cH
 have E6:(k==9)=false:=by simpa using gk
 simp only[go_sem,bU,cv,dn,ed,gm,iz,E4,E5,E6,J,aa,ar,aP,bf,b4,dh,cH,gk,or_self]
theorem Lt (r:aU) (al:ee r.enc≤1048576):run ak 114 [r.enc] []=some (.int .i64 r.depth,[]):=by
 have kB:=al
 simp only[aU.dv,ee,kE,List.length_map]at kB
 have ah:∀z∈r.args,run ak 114 [z.enc] []=some (.int .i64 z.depth,[]):=fun z aD=>Lt z (Nat.le_trans (sX (f:=aU.enc) aD) (by omega))
 have ad:=r.Iu
 rw[run_eq ak 114 _ _ Tryz.func114 (by decide+kernel) rfl (show 1≤_ by decide)]
 dsimp only[Tryz.f114]
 simp only[go_sem]
 rw[aU.Dz]at ad⊢
 refine(cz (fun x:Nat×Nat=>x.1≤r.args.length∧max x.2 (k8 ((r.args.drop x.1).map aU.depth))≤ee r.enc) (fun x=>{t:=ae (ae (ae bH 4 (.int .i64 x.1)) 3 (.int .i64 x.2)) 1 (.ptr 0 1 0),b:=ae bk 1 (some (ax.box [.int .i64 r.kind,.str r.dV,.slc false 3 (r.args.map aU.enc)])),o:=[],r:=#[ResultVar.tmp 2],f:=114,n:=22}) (fun x=>some (.int .i64 ((1+max x.2 (k8 ((r.args.drop x.1).map aU.depth)):Nat):Int),[])) (fun x=>r.args.length-x.1) ?_ (0,0) ⟨Nat.zero_le _,by simp only[List.drop_zero,Nat.zero_max];omega⟩).trans (by simp only[List.drop_zero,Nat.zero_max])
 rintro⟨i,n⟩ ⟨hi,aC⟩ ag
 dsimp only at hi aC⊢
 by_cases h:i<r.args.length
 ·have J:(i:Int)<r.args.length:=by omega
  have w:=cr (n:=i) (by omega)
  have U:=ah r.args[i] (List.getElem_mem h)
  rw[List.drop_eq_getElem_cons h,List.map_cons,T9]at aC⊢
  generalize r.args[i].depth=d at U aC⊢
  have hm:=apu n d
  have e:(if(n:Int)>d then(n:Int)else d)=((max n d:Nat):Int):=by split<;>omega
  rw[e]at hm
  simp only[aU.dv]at U
  simp only[go_sem,J,w,getD_map h,U,hm]
  rw[ag (i+1,max n d) ⟨by show i+1≤_;omega,by show max (max n d) (k8 (List.map aU.depth (List.drop (i+1) r.args)))≤ee r.enc;omega⟩ (by show r.args.length-(i+1)<r.args.length-i;omega)]
  refine congrArg some (congrArg (·,[]) (congrArg (V.int .i64) ?_))
  dsimp only
  omega
 ·have J:¬(i:Int)<r.args.length:=by omega
  rw[List.drop_eq_nil_of_le (by omega)]at aC⊢
  have w:IntKind.i64.wrap ((n:Int)+1)=((n+1:Nat):Int):=cr (by omega)
  simp only[go_sem,J,w,k8,List.map_nil,List.foldr_nil,Nat.max_zero]
  rw[Nat.add_comm]
 termination_by SizeOf.sizeOf r
 decreasing_by exact aU.lt _ aD
theorem Lu (r:aU) (al:ee r.enc≤1048576) (left:Int) (bn:0≤left) (hle:left≤1048576):run ak 113 [r.enc,.int .i64 left] []=some (.int .i64 (leftOf r.nodes left),[]):=by
 have kB:=al
 simp only[aU.dv,ee,kE,List.length_map]at kB
 have ah:∀z∈r.args,∀left:Int,0≤left→left≤1048576→run ak 113 [z.enc,.int .i64 left] []=some (.int .i64 (leftOf z.nodes left),[]):=fun z aD left a b=>Lu z (Nat.le_trans (sX (f:=aU.enc) aD) (by omega)) left a b
 have cT:=hC (n:=left-1) (by omega) (by omega)
 rw[run_eq ak 113 _ _ Tryz.func113 (by decide+kernel) rfl (show 2≤_ by decide)]
 dsimp only[Tryz.f113]
 simp only[go_sem,cT]
 rw[aU.Is]
 refine(cz (fun x:Nat×Int=>x.1≤r.args.length∧ -1≤x.2∧x.2≤1048576) (fun x=>{t:=ae (ae (ae bH 5 (.int .i64 x.1)) 2 (.ptr 0 2 0)) 1 (.int .i64 x.2),b:=ae bk 2 (some (ax.box [.int .i64 r.kind,.str r.dV,.slc false 3 (r.args.map aU.enc)])),o:=[],r:=#[ResultVar.tmp 4],f:=113,n:=27}) (fun x=>some (.int .i64 (if x.2<0 then -1 else leftOf (s6 aU.nodes (r.args.drop x.1)) x.2),[])) (fun x=>r.args.length-x.1) ?_ (0,left-1) ⟨Nat.zero_le _,by show -1≤left-1;omega,by show left-1≤1048576;omega⟩).trans ?_
 ·rintro⟨i,n⟩ ⟨hi,aC,xP⟩ ag
  dsimp only at hi aC xP⊢
  by_cases h:i<r.args.length
  ·have J:(i:Int)<r.args.length:=by omega
   by_cases av:n<0
   ·have bT:¬n≥0:=by omega
    have e:n= -1:=by omega
    rw[if_pos av]
    simp only[go_sem,J,bT]
    rw[e]
   ·have bT:n≥0:=by omega
    have w:=cr (n:=i) (by omega)
    have U:=ah r.args[i] (List.getElem_mem h) n bT xP
    rw[if_neg av,List.drop_eq_getElem_cons h,DD,Iv]
    have hle:leftOf r.args[i].nodes n≤n∨leftOf r.args[i].nodes n= -1:=by unfold leftOf;split<;>omega
    have qY: -1≤leftOf r.args[i].nodes n:=by unfold leftOf;split<;>omega
    generalize leftOf r.args[i].nodes n=m at U hle qY⊢
    simp only[aU.dv]at U
    simp only[go_sem,J,bT,w,getD_map h,U]
    exact ag (i+1,m) ⟨by show i+1≤_;omega,qY,by show m≤1048576;omega⟩ (by show r.args.length-(i+1)<r.args.length-i;omega)
  ·have J:¬(i:Int)<r.args.length:=by omega
   rw[List.drop_eq_nil_of_le (by omega)]
   have:(if n<0 then(-1:Int)else leftOf (s6 aU.nodes []) n)=n:=by
    split
    ·omega
    ·show leftOf 0 n=n
     rw[u4 (by omega)]
     omega
   rw[this]
   simp only[go_sem,J]
 ·dsimp only
  rw[List.drop_zero]
  refine congrArg some (congrArg (·,[]) (congrArg (V.int .i64) ?_))
  show _=leftOf (1+s6 aU.nodes r.args) left
  rw[Iv]
  by_cases k:(1:Int)≤left
  ·have:leftOf 1 left=left-1:=u4 (by omega)
   rw[this]
  ·have:leftOf 1 left= -1:=u5 (by omega)
   rw[this,if_pos (by omega),if_pos (by omega)]
 termination_by SizeOf.sizeOf r
 decreasing_by exact aU.lt _ aD
theorem Lv (r:aU) (al:ee r.enc≤1048576):run ak 115 [r.enc] []=some (.bool r.gN,[]):=by
 have kB:=al
 simp only[aU.dv,ee,kE,List.length_map]at kB
 have ah:∀z∈r.args,run ak 115 [z.enc] []=some (.bool z.gN,[]):=fun z aD=>Lv z (Nat.le_trans (sX (f:=aU.enc) aD) (by omega))
 have f1:=rO r.dV (by omega)
 have f2:=vQ r.kind 1 9
 have f3:=apv r.kind
 rw[run_eq ak 115 _ _ Tryz.func115 (by decide+kernel) rfl (show 1≤_ by decide)]
 dsimp only[Tryz.f115]
 simp only[go_sem]
 rw[aU.DA]
 refine cz (fun i:Nat=>i≤r.args.length) (fun i=>{t:=ae (ae bH 3 (.int .i64 i)) 1 (.ptr 0 1 0),b:=ae bk 1 (some (ax.box [.int .i64 r.kind,.str r.dV,.slc false 3 (r.args.map aU.enc)])),o:=[],r:=#[ResultVar.tmp 2],f:=115,n:=53}) (fun i=>some (.bool (((r.args.drop i).map aU.gN).all id&&gM r),[])) (fun i=>r.args.length-i) ?_ 0 (Nat.zero_le _)
 intro i hi ag
 by_cases h:i<r.args.length
 ·have J:(i:Int)<r.args.length:=by omega
  have w:=cr (n:=i) (by omega)
  have U:=ah r.args[i] (List.getElem_mem h)
  rw[List.drop_eq_getElem_cons h,List.map_cons,List.all_cons]
  generalize r.args[i].gN=g at U⊢
  simp only[aU.dv]at U
  simp only[go_sem,J,w,getD_map h,U]
  cases g
  ·simp only[go_sem,Bool.not_false,id,Bool.false_and]
  ·simp only[go_sem,w,Bool.not_true,id,Bool.true_and]
   exact ag (i+1) (by omega) (by omega)
 ·have J:¬(i:Int)<r.args.length:=by omega
  rw[List.drop_eq_nil_of_le (by omega),List.map_nil,List.all_nil,Bool.true_and,T8]
  by_cases k:r.kind=3
  ·have bI:(r.kind==3)=true:=by simpa using k
   rw[if_pos k]
   by_cases l1:r.dV.size=1
   ·have qB:((r.dV.size:Int)==1)=true:=by simp;omega
    cases wd:isWord r.dV
    ·simp only[go_sem,J,bI,qB,l1,f1,wd,Bool.true_and,Bool.false_and]
    ·have e:((r.args.length:Int)==0)=decide ((r.args.length:Int)=0):=rfl
     simp only[go_sem,J,bI,qB,l1,f1,wd,Bool.true_and,e]
   ·have qB:((r.dV.size:Int)==1)=false:=by simp;omega
    simp only[go_sem,J,bI,qB,l1,Bool.false_and]
  ·have bI:(r.kind==3)=false:=by simpa using k
   rw[if_neg k]
   simp only[go_sem,J,bI]
   rw[arO]
   rotate_left
   ·kernel_rfl
   cases c:(decide (1≤r.kind)&&decide (r.kind≤9))
   ·rw[c]at f2
    simp only[go_sem,f2,Bool.false_and]
   ·rw[c]at f2
    have e:((r.args.length:Int)==s5 r.kind)=decide ((r.args.length:Int)=s5 r.kind):=rfl
    by_cases qC:r.dV.size=0
    ·simp only[go_sem,f2,f3,toList_nil,qC,Bool.true_and,e]
    ·simp only[go_sem,f2,f3,toList_nil,qC,Bool.true_and,Bool.false_and]
 termination_by SizeOf.sizeOf r
 decreasing_by exact aU.lt _ aD
theorem apx (r:aU) (al:ee r.enc≤1048576):run ak 92 [r.enc] []=some (.bool (jL r),[]):=by
 have f1:=Lu r al 16 (by omega) (by omega)
 have f2:=Lt r al
 have f3:=Lv r al
 simp only[aU.dv]at f1 f2 f3
 rw[run_eq ak 92 _ _ Tryz.func92 (by decide+kernel) rfl (show 1≤_ by decide)]
 dsimp only[Tryz.f92]
 unfold jL
 simp only[go_sem,f1]
 by_cases k:r.nodes≤16
 ·have bI:leftOf r.nodes 16≥0:=by rw[u4 (by omega)];omega
  by_cases d:r.depth≤6
  ·have cy:(r.depth:Int)≤6:=by omega
   simp only[go_sem,k,bI,f2,d,cy,f3,Bool.true_and]
  ·have cy:¬(r.depth:Int)≤6:=by omega
   simp only[go_sem,k,bI,f2,d,cy,Bool.true_and,Bool.false_and]
 ·have bI:¬leftOf r.nodes 16≥0:=by rw[u5 (by omega)];decide
  simp only[go_sem,k,bI,Bool.false_and]
theorem Lw (r:aU) (al:ee r.enc≤1048576) (d:Nat) (aw:d≤6):run ak 83 [r.enc,.int .i64 d] []=some (.int .i64 (r.eA d),[]):=by
 have kB:=al
 simp only[aU.dv,ee,kE,List.length_map]at kB
 have ah:∀z∈r.args,∀d:Nat,d≤6→run ak 83 [z.enc,.int .i64 d] []=some (.int .i64 (z.eA d),[]):=fun z aD d aw=>Lw z (Nat.le_trans (sX (f:=aU.enc) aD) (by omega)) d aw
 have f1:=oN r.dV (by omega)
 have f3:=apw r.kind
 have ys:∀x:aU,x.eA (d-1)≤17:=fun x=>by rw[aU.DB];split<;>omega
 rw[run_eq ak 83 _ _ Tryz.func83 (by decide+kernel) rfl (show 2≤_ by decide)]
 dsimp only[Tryz.f83]
 simp only[go_sem]
 rw[arO]
 rotate_left
 ·kernel_rfl
 rw[aU.DB]
 by_cases tG:d=0
 ·subst tG
  rw[if_pos (Or.inl rfl)]
  simp only[go_sem,Int.natCast_zero]
 have wc:((d:Int)==0)=false:=by simp;omega
 by_cases ay:(r.args.length:Int)=jK r.kind
 rotate_left
 ·have e4:((r.args.length:Int)==jK r.kind)=false:=by simpa using ay
  have aj:gM r=false:=by unfold gM;rw[e4,Bool.false_and]
  rw[if_pos (Or.inr aj)]
  simp only[go_sem,wc,f3,bne,e4,Bool.not_false]
 have e4:((r.args.length:Int)==jK r.kind)=true:=by simpa using ay
 have hlen:=Ua r.kind
 have e2:IntKind.i64.wrap ((d:Int)-1)=((d-1:Nat):Int):=by rw[hC (by omega) (by omega)];omega
 by_cases aW:r.kind=3
 ·have arX:(r.kind==3)=true:=by simpa using aW
  by_cases l1:r.dV.size=1
  rotate_left
  ·have qB:((r.dV.size:Int)==1)=false:=by simp;omega
   have aj:gM r=false:=by unfold gM;rw[if_pos aW,decide_eq_false l1,Bool.false_and,Bool.and_false]
   rw[if_pos (Or.inr aj)]
   simp only[go_sem,wc,f3,bne,e4,arX,qB,Bool.not_true,Bool.not_false]
  have qB:((r.dV.size:Int)==1)=true:=by simp;omega
  cases wd:isWord r.dV
  ·have aj:gM r=false:=by unfold gM;rw[if_pos aW,wd,Bool.and_false,Bool.and_false]
   rw[if_pos (Or.inr aj)]
   rw[wd]at f1
   simp only[go_sem,wc,f3,f1,bne,e4,arX,qB,Bool.not_true,Bool.not_false]
  have aj:gM r=true:=by unfold gM;rw[e4,if_pos aW,wd,decide_eq_true l1];rfl
  rw[wd]at f1
  rw[if_neg (fun h=>h.elim tG (fun h=>by rw[aj]at h;cases h))]
  simp only[go_sem,wc,f3,f1,bne,e4,arX,qB,Bool.not_true,Bool.not_false]
  refine(cz (fun x:Nat×Nat=>x.1≤r.args.length∧x.2≤1+17*x.1) (fun x=>{t:=ae (ae (ae (ae (ae bH 38 (.int .i64 x.1)) 37 (.int .i64 r.args.length)) 36 (.slc false 3 (r.args.map aU.enc))) 5 (.int .i64 x.2)) 1 (.int .i64 d),b:=ae bk 2 (some (ax.box [.int .i64 r.kind,.str r.dV,.slc false 3 (r.args.map aU.enc)])),o:=[],r:=#[ResultVar.tmp 4],f:=83,n:=51}) (fun x=>some (.int .i64 ((min (x.2+s6 (fun x=>x.eA (d-1)) (r.args.drop x.1)) 17:Nat):Int),[])) (fun x=>r.args.length-x.1) ?_ (0,1) ⟨Nat.zero_le _,Nat.le_refl _⟩).trans (by simp only[List.drop_zero]<;>rfl)
  rintro⟨i,n⟩ ⟨hi,aC⟩ ag
  dsimp only at hi aC⊢
  by_cases h:i<r.args.length
  ·have J:(i:Int)<r.args.length:=by omega
   have w:=cr (n:=i) (by omega)
   have U:=ah r.args[i] (List.getElem_mem h) (d-1) (by omega)
   have ai:=ys r.args[i]
   rw[List.drop_eq_getElem_cons h,DD]
   generalize r.args[i].eA (d-1)=m at U ai⊢
   simp only[aU.dv]at U
   have j2:IntKind.i64.wrap ((n:Int)+(m:Int))=((n+m:Nat):Int):=by rw[hC (by omega) (by omega)];omega
   simp only[go_sem,J,w,e2,getD_map h,U,j2]
   rw[ag (i+1,n+m) ⟨by show i+1≤_;omega,by show n+m≤1+17*(i+1);omega⟩ (by show r.args.length-(i+1)<r.args.length-i;omega)]
   dsimp only
   rw[Nat.add_assoc]
  ·have J:¬(i:Int)<r.args.length:=by omega
   rw[List.drop_eq_nil_of_le (by omega)]
   simp only[go_sem,J]
   refine congrArg some (congrArg (·,[]) (congrArg (V.int .i64) ?_))
   show _=((min (n+0) 17:Nat):Int)
   split<;>omega
 ·have arX:(r.kind==3)=false:=by simpa using aW
  by_cases qC:r.dV.size=0
  rotate_left
  ·have aj:gM r=false:=by unfold gM;rw[if_neg aW,decide_eq_false qC,Bool.and_false]
   rw[if_pos (Or.inr aj)]
   simp only[go_sem,wc,f3,bne,e4,arX,toList_nil,qC,Bool.not_true,Bool.not_false]
  have aj:gM r=true:=by unfold gM;rw[e4,if_neg aW,decide_eq_true qC];rfl
  rw[if_neg (fun h=>h.elim tG (fun h=>by rw[aj]at h;cases h))]
  simp only[go_sem,wc,f3,bne,e4,arX,toList_nil,qC,Bool.not_true,Bool.not_false]
  refine(cz (fun x:Nat×Nat=>x.1≤r.args.length∧x.2≤1+17*x.1) (fun x=>{t:=ae (ae (ae (ae (ae bH 38 (.int .i64 x.1)) 37 (.int .i64 r.args.length)) 36 (.slc false 3 (r.args.map aU.enc))) 5 (.int .i64 x.2)) 1 (.int .i64 d),b:=ae bk 2 (some (ax.box [.int .i64 r.kind,.str r.dV,.slc false 3 (r.args.map aU.enc)])),o:=[],r:=#[ResultVar.tmp 4],f:=83,n:=51}) (fun x=>some (.int .i64 ((min (x.2+s6 (fun x=>x.eA (d-1)) (r.args.drop x.1)) 17:Nat):Int),[])) (fun x=>r.args.length-x.1) ?_ (0,1) ⟨Nat.zero_le _,Nat.le_refl _⟩).trans (by simp only[List.drop_zero]<;>rfl)
  rintro⟨i,n⟩ ⟨hi,aC⟩ ag
  dsimp only at hi aC⊢
  by_cases h:i<r.args.length
  ·have J:(i:Int)<r.args.length:=by omega
   have w:=cr (n:=i) (by omega)
   have U:=ah r.args[i] (List.getElem_mem h) (d-1) (by omega)
   have ai:=ys r.args[i]
   rw[List.drop_eq_getElem_cons h,DD]
   generalize r.args[i].eA (d-1)=m at U ai⊢
   simp only[aU.dv]at U
   have j2:IntKind.i64.wrap ((n:Int)+(m:Int))=((n+m:Nat):Int):=by rw[hC (by omega) (by omega)];omega
   simp only[go_sem,J,w,e2,getD_map h,U,j2]
   rw[ag (i+1,n+m) ⟨by show i+1≤_;omega,by show n+m≤1+17*(i+1);omega⟩ (by show r.args.length-(i+1)<r.args.length-i;omega)]
   dsimp only
   rw[Nat.add_assoc]
  ·have J:¬(i:Int)<r.args.length:=by omega
   rw[List.drop_eq_nil_of_le (by omega)]
   simp only[go_sem,J]
   refine congrArg some (congrArg (·,[]) (congrArg (V.int .i64) ?_))
   show _=((min (n+0) 17:Nat):Int)
   split<;>omega
 termination_by SizeOf.sizeOf r
 decreasing_by exact aU.lt _ aD
theorem apy (r:aU) (al:ee r.enc≤1048576):run ak 50 [r.enc] []=some (.bool (jL r),[]):=by
 have f:=Lw r al 6 (Nat.le_refl 6)
 have e:(((6:Nat):Int))=6:=rfl
 rw[e]at f
 simp only[aU.dv]at f
 rw[run_eq ak 50 _ _ Tryz.func50 (by decide+kernel) rfl (show 1≤_ by decide)]
 dsimp only[Tryz.f50]
 rw[←T7]
 simp only[go_sem,f]
 refine congrArg some (congrArg (·,[]) (congrArg V.bool ?_))
 by_cases k:r.eA 6≤16
 ·have bI:(r.eA 6:Int)≤16:=by omega
  simp[k,bI]
 ·have bI:¬(r.eA 6:Int)≤16:=by omega
  simp[k,bI]
end Go.aB
namespace Go.aB
open Go Go.Proofs
set_option maxRecDepth 10000
set_option maxHeartbeats 4000000
theorem Lx:run ak 20 [] []=some (nE.dC,[]):=by
 rw[run_eq ak 20 _ _ Tryz.func20 (by decide+kernel) rfl (show 0≤_ by decide)]
 dsimp only[Tryz.f20]
 simp only[go_sem]
 rfl
theorem e6 (d:ao):d.enc=.agg [.slc false 1 (d.accept.map B),.slc false 1 (d.next.map bu)]:=rfl
theorem Ly (r:aU) (al:ee r.enc≤1048576) (av:r.gN=true):run ak 51 [r.enc] []=some (bz (gz r),[]):=by
 have kB:=al
 simp only[aU.dv,ee,kE,List.length_map]at kB
 obtain⟨hZ,mC⟩:=AQ av
 have ag:∀z∈r.args,run ak 51 [z.enc] []=some (bz (gz z),[]):=fun z aD=>Ly z (Nat.le_trans (sX (f:=aU.enc) aD) (by omega)) (hZ z aD)
 rw[D9]
 simp only[aU.dv]
 rw[run_eq ak 51 _ _ Tryz.func51 (by decide+kernel) rfl (show 1≤_ by decide)]
 dsimp only[Tryz.f51]
 rcases JE av with⟨ay,aO⟩ | ⟨ay,x,aO⟩ | ⟨ay,x,y,aO⟩
 ·rw[aO,List.map_nil,List.map_nil]
  unfold pF tl
  have nw:=Lx
  have cT:=Li ByteArray.empty (by decide)
  rw[if_pos Ea]at cT
  change run ak _ [V.str ⟨#[]⟩] []=_ at cT
  have qA:=Li r.dV (by omega)
  have hw:=fun(ar:r.kind=3)=>Eb mC ar
  simp only[e6,bz,ao.dC]at cT nw⊢
  rcases ay with k | k | k | k
  ·simp only[k,go_sem,iter_eq,nw,Int.reduceEq]
  ·simp only[k,go_sem,iter_eq,cT,Int.reduceEq]
  ·rw[if_pos (hw k)]at qA
   simp only[bz,e6]at qA
   simp only[k,go_sem,iter_eq,qA,Int.reduceEq]
  ·simp only[k,go_sem,iter_eq,Int.reduceEq]
   rfl
 ·have U:=ag x (by rw[aO];exact List.mem_cons_self ..)
  have oQ:=fun d=>ry x (hZ x (by rw[aO];exact List.mem_cons_self ..)) (e:=d)
  rw[aO,List.map_cons,List.map_nil,List.map_cons,List.map_nil]
  unfold pF
  generalize gz x=tH at U oQ⊢
  simp only[aU.dv]at U
  cases tH with
  | none=>
    simp only[bz]at U
    simp only[go_sem,iter_eq,U,bz,Option.bind_none]
  | some d=>
    have aw:=oQ d rfl
    have hf:=Lh d aw
    have st:=apd d aw
    simp only[bz,e6,ao.dC]at U hf st
    rcases ay with k | k
    ·simp only[k,go_sem,iter_eq,U,st,Int.reduceEq,Option.bind_some]
     generalize oG d=lF
     cases lF<;>simp only[go_sem,bz,e6,Int.reduceEq]
    ·simp only[k,go_sem,iter_eq,U,hf,Int.reduceEq,Option.bind_some,bz,e6]
 ·have U:=ag x (by rw[aO];exact List.mem_cons_self ..)
  have aA:=ag y (by rw[aO];exact List.mem_cons_of_mem _ (List.mem_cons_self ..))
  have oQ:=fun d=>ry x (hZ x (by rw[aO];exact List.mem_cons_self ..)) (e:=d)
  have pe:=fun d=>ry y (hZ y (by rw[aO];exact List.mem_cons_of_mem _ (List.mem_cons_self ..))) (e:=d)
  rw[aO,List.map_cons,List.map_cons,List.map_nil,List.map_cons,List.map_cons,List.map_nil]
  unfold pF
  generalize gz x=tH at U oQ⊢
  generalize gz y=E7 at aA pe⊢
  simp only[aU.dv]at U aA
  cases tH with
  | none=>
    simp only[bz]at U
    simp only[go_sem,iter_eq,U,bz,Option.bind_none]
  | some d=>
  cases E7 with
  | none=>
    simp only[bz,e6]at U aA
    simp only[go_sem,iter_eq,U,aA,bz,Option.bind_none,Option.bind_some]
  | some f=>
    have aw:=oQ d rfl
    have aJ:=pe f rfl
    have hc:=apa d f aw aJ
    have j8:=EN d f aw aJ 6 (Or.inl rfl)
    have qD:=EN d f aw aJ 7 (Or.inr rfl)
    simp only[e6]at hc j8 qD
    simp only[bz,e6]at U aA
    rcases ay with k | k | k
    ·simp only[k,Int.reduceEq,if_true,if_false,Option.bind_some]
     generalize oF d f=lF at hc⊢
     simp only[go_sem,iter_eq,U,aA]
     rw[arO]
     rotate_left
     ·kernel_rfl
     cases lF<;>simp only[bz,e6]at hc<;>simp only[go_sem,hc,bz,e6]
    ·simp only[k,Int.reduceEq,if_true,if_false,Option.bind_some]
     generalize fw (gQ 6 d f)=lF at j8⊢
     simp only[go_sem,iter_eq,U,aA]
     rw[arO]
     rotate_left
     ·kernel_rfl
     cases lF<;>simp only[bz,e6]at j8<;>simp only[go_sem,j8,bz,e6]
    ·simp only[k,Int.reduceEq,if_true,if_false,Option.bind_some]
     generalize fw (gQ 7 d f)=lF at qD⊢
     simp only[go_sem,iter_eq,U,aA]
     rw[arO]
     rotate_left
     ·kernel_rfl
     cases lF<;>simp only[bz,e6]at qD<;>simp only[go_sem,qD,bz,e6]
 termination_by SizeOf.sizeOf r
 decreasing_by exact aU.lt _ aD
end Go.aB
namespace Go.aB
open Go Go.Proofs
set_option maxRecDepth 10000
set_option maxHeartbeats 4000000
theorem E8 (r:aU) (al:ee r.enc≤1048576):run ak 24 [r.enc] []=some (bz (if jL r=true then gz r else none),[]):=by
 have bR:=apy r al
 have mW:=fun av=>Ly r al av
 simp only[aU.dv]at bR mW
 rw[run_eq ak 24 _ _ Tryz.func24 (by decide+kernel) rfl (show 1≤_ by decide)]
 dsimp only[Tryz.f24]
 by_cases h:jL r=true
 ·rw[if_pos h]
  rw[h]at bR
  have av:r.gN=true:=by
   unfold jL at h
   rw[Bool.and_eq_true,Bool.and_eq_true]at h
   exact h.2.2
  have mW:=mW av
  generalize gz r=c at mW⊢
  cases c<;>simp only[bz,e6]at mW<;>simp only[go_sem,bR,mW,bz,e6,Bool.not_true]
 ·rw[if_neg h]
  have aZ:jL r=false:=by simpa using h
  rw[aZ]at bR
  simp only[go_sem,bR,bz,Bool.not_false]
end Go.aB
namespace Go.aB
open Go Go.Proofs
set_option maxRecDepth 10000
set_option maxHeartbeats 4000000
theorem apz (r:aU) (al:r.dV.size≤1048576) (ay:r.kind=1∨r.kind=2∨r.kind=3∨r.kind=4) (hw:r.kind=3→isWord r.dV=true) (aO:r.args=[]):run ak 116 [r.enc] []=some ((tl r.kind r.dV).dC,[]):=by
 have cT:=Lj ByteArray.empty Ea
 change run ak _ [V.str ⟨#[]⟩] []=_ at cT
 unfold tl
 simp only[aU.dv]
 rw[run_eq ak 116 _ _ Tryz.func116 (by decide+kernel) rfl (show 1≤_ by decide)]
 dsimp only[Tryz.f116]
 rw[aO]
 simp only[ao.dC]at cT⊢
 rcases ay with k | k | k | k
 ·simp only[k,go_sem,Int.reduceEq]
  rfl
 ·simp only[k,go_sem,cT,Int.reduceEq]
 ·have qA:=Lj r.dV (hw k)
  simp only[ao.dC]at qA
  simp only[k,go_sem,qA,Int.reduceEq]
 ·simp only[k,go_sem,Int.reduceEq]
  rfl
theorem LA (r:aU) (al:ee r.enc≤1048576) (av:r.gN=true):run ak 93 [r.enc] []=some (bz (gz r),[]):=by
 have kB:=al
 simp only[aU.dv,ee,kE,List.length_map]at kB
 obtain⟨hZ,mC⟩:=AQ av
 have ag:∀z∈r.args,run ak 93 [z.enc] []=some (bz (gz z),[]):=fun z aD=>LA z (Nat.le_trans (sX (f:=aU.enc) aD) (by omega)) (hZ z aD)
 have tI:=fun ay aO=>apz r (by omega) ay (Eb mC) aO
 rw[D9]
 simp only[aU.dv]at tI⊢
 rw[run_eq ak 93 _ _ Tryz.func93 (by decide+kernel) rfl (show 1≤_ by decide)]
 dsimp only[Tryz.f93]
 rcases JE av with⟨ay,aO⟩ | ⟨ay,x,aO⟩ | ⟨ay,x,y,aO⟩
 ·have tI:=tI ay aO
  rw[aO,List.map_nil]at tI
  rw[aO,List.map_nil,List.map_nil]
  unfold pF
  generalize tl r.kind r.dV=e at tI⊢
  simp only[ao.dC]at tI
  simp only[go_sem,tI,bz,e6]
 ·have U:=ag x (by rw[aO];exact List.mem_cons_self ..)
  have oQ:=fun d=>ry x (hZ x (by rw[aO];exact List.mem_cons_self ..)) (e:=d)
  rw[aO,List.map_cons,List.map_nil,List.map_cons,List.map_nil]
  unfold pF
  generalize gz x=tH at U oQ⊢
  simp only[aU.dv]at U
  cases tH with
  | none=>
    simp only[bz]at U
    simp only[go_sem,U,bz,Option.bind_none,Bool.not_false]
  | some d=>
    have aw:=oQ d rfl
    have hf:=Lf d aw
    have st:=apo d aw
    simp only[bz,e6]at U hf
    rcases ay with k | k
    ·simp only[k,Int.reduceEq,if_false,Option.bind_some]
     generalize oG d=lF at st⊢
     cases lF<;>simp only[bz,e6]at st<;>simp only[go_sem,U,st,bz,e6,Bool.not_true]
    ·simp only[k,go_sem,U,hf,Int.reduceEq,Option.bind_some,bz,e6,Bool.not_true]
 ·have U:=ag x (by rw[aO];exact List.mem_cons_self ..)
  have aA:=ag y (by rw[aO];exact List.mem_cons_of_mem _ (List.mem_cons_self ..))
  have oQ:=fun d=>ry x (hZ x (by rw[aO];exact List.mem_cons_self ..)) (e:=d)
  have pe:=fun d=>ry y (hZ y (by rw[aO];exact List.mem_cons_of_mem _ (List.mem_cons_self ..))) (e:=d)
  rw[aO,List.map_cons,List.map_cons,List.map_nil,List.map_cons,List.map_cons,List.map_nil]
  unfold pF
  generalize gz x=tH at U oQ⊢
  generalize gz y=E7 at aA pe⊢
  simp only[aU.dv]at U aA
  cases tH with
  | none=>
    simp only[bz]at U
    simp only[go_sem,U,bz,Option.bind_none,Bool.not_false]
  | some d=>
  cases E7 with
  | none=>
    simp only[bz,e6]at U aA
    rcases ay with k | k | k<;>simp only[k,go_sem,U,aA,bz,Option.bind_none,Option.bind_some,Bool.not_true,Bool.not_false]
  | some f=>
    have aw:=oQ d rfl
    have aJ:=pe f rfl
    have hc:=apm d f aw aJ
    have j8:=EO d f aw aJ 6 (Or.inl rfl)
    have qD:=EO d f aw aJ 7 (Or.inr rfl)
    simp only[e6]at hc j8 qD
    simp only[bz,e6]at U aA
    rcases ay with k | k | k
    ·simp only[k,Int.reduceEq,if_true,if_false,Option.bind_some]
     generalize oF d f=lF at hc⊢
     cases lF<;>simp only[bz,e6]at hc<;>simp only[go_sem,U,aA,hc,bz,e6,Bool.not_true]
    ·simp only[k,Int.reduceEq,if_true,if_false,Option.bind_some]
     generalize fw (gQ 6 d f)=lF at j8⊢
     cases lF<;>simp only[bz,e6]at j8<;>simp only[go_sem,U,aA,j8,bz,e6,Bool.not_true]
    ·simp only[k,Int.reduceEq,if_true,if_false,Option.bind_some]
     generalize fw (gQ 7 d f)=lF at qD⊢
     cases lF<;>simp only[bz,e6]at qD<;>simp only[go_sem,U,aA,qD,bz,e6,Bool.not_true]
 termination_by SizeOf.sizeOf r
 decreasing_by exact aU.lt _ aD
theorem E9 (r:aU) (al:ee r.enc≤1048576):run ak 59 [r.enc] []=some (bz (if jL r=true then gz r else none),[]):=by
 have bR:=apx r al
 have mW:=fun av=>LA r al av
 simp only[aU.dv]at bR mW
 rw[run_eq ak 59 _ _ Tryz.func59 (by decide+kernel) rfl (show 1≤_ by decide)]
 dsimp only[Tryz.f59]
 by_cases h:jL r=true
 ·rw[if_pos h]
  rw[h]at bR
  have av:r.gN=true:=by
   unfold jL at h
   rw[Bool.and_eq_true,Bool.and_eq_true]at h
   exact h.2.2
  have mW:=mW av
  generalize gz r=c at mW⊢
  cases c<;>simp only[bz,e6]at mW<;>simp only[go_sem,bR,mW,bz,e6,Bool.not_true]
 ·rw[if_neg h]
  have aZ:jL r=false:=by simpa using h
  rw[aZ]at bR
  simp only[go_sem,bR,bz,Bool.not_false]
end Go.aB
namespace Go.aB
open Go Go.Proofs
set_option maxRecDepth 10000
set_option maxHeartbeats 4000000
def tJ (m:cD):Bool:=decide (m.a.size=0)&&(decide (m.b.size=0)&&decide (m.c.size=0))
def jS (r:aU):Option ao:=if jL r=true then gz r else none
def iJ (l:bQ):Bool:=
 if l.kind=1∨l.kind=2 then decide (l.text.size≤4)&&isWord l.text&&tJ l.dM&&s4 l.dB
 else if l.kind=3 then decide (l.text.size=0)&&hD l.dM&&s4 l.dB
 else if l.kind=4 then decide (l.text.size=0)&&tJ l.dM&&(jS l.dB).isSome
 else false
theorem apA (l:bQ) (aK:l.text.size≤1048576) (J:l.dM.a.size≤1048576) (aa:l.dM.b.size≤1048576) (ar:l.dM.c.size≤1048576) (aI:ee l.dB.enc≤1048576):run ak 41 [l.enc] []=some (.bool (iJ l),[]):=by
 have cE:=oN l.text (by omega)
 have mX:=Lr l.dM J aa ar
 have p8:=Ls l.dB
 have eK:=E8 l.dB aI
 simp only[aU.dv]at p8 eK
 rw[run_eq ak 41 _ _ Tryz.func41 (by decide+kernel) rfl (show 1≤_ by decide)]
 dsimp only[Tryz.f41]
 have aD:decide ((⟨#[]⟩:ByteArray).size=0)=true:=rfl
 have fin:∀b,tJ l.dM=b→(decide (l.dM.a.size=0)&&(decide (l.dM.b.size=0)&&decide (l.dM.c.size=0)))=b:=fun b e=>e
 unfold iJ
 by_cases iK:l.kind=1∨l.kind=2
 ·rw[if_pos iK]
  by_cases ai:l.text.size≤4
  ·have hJ:¬(l.text.size:Int)>4:=by omega
   cases hw:isWord l.text
   ·rw[hw]at cE
    rcases iK with k | k<;>simp only[k,go_sem,hJ,cE,Bool.not_false,Bool.and_false,Bool.false_and]
   ·rw[hw]at cE
    rw[decide_eq_true ai]
    cases hm:tJ l.dM
    ·have fin:=fin _ hm
     rcases iK with k | k<;>simp only[k,go_sem,hJ,cE,Bool.not_true,toList_nil,aD,fin,Bool.true_and,Bool.false_and,Bool.and_false]
    ·have fin:=fin _ hm
     rcases iK with k | k<;>simp only[k,go_sem,hJ,cE,Bool.not_true,toList_nil,aD,fin,p8,Bool.true_and]
  ·have hJ:(l.text.size:Int)>4:=by omega
   rcases iK with k | k<;>simp only[k,go_sem,hJ,ai,Bool.false_and,decide_false]
 rw[if_neg iK]
 have aq:(l.kind==1)=false:=by simpa using fun e=>iK (Or.inl e)
 have aF:(l.kind==2)=false:=by simpa using fun e=>iK (Or.inr e)
 by_cases aW:l.kind=3
 ·rw[if_pos aW]
  cases hm:hD l.dM
  ·rw[hm]at mX
   simp only[cD.enc]at mX
   simp only[aW,go_sem,mX,Bool.not_false,Bool.and_false,Bool.false_and]
  ·rw[hm]at mX
   simp only[cD.enc]at mX
   cases ja:decide (l.text.size=0)
   ·simp only[aW,go_sem,mX,Bool.not_true,toList_nil,aD,ja,Bool.true_and,Bool.false_and,Bool.and_false]
   ·simp only[aW,go_sem,mX,Bool.not_true,toList_nil,aD,ja,p8,Bool.true_and,Bool.and_true]
 rw[if_neg aW]
 have arX:(l.kind==3)=false:=by simpa using aW
 by_cases ck:l.kind=4
 ·rw[if_pos ck]
  have Fa:=Ls ⟨0,⟨#[]⟩,[]⟩
  have zp:s4 ⟨0,⟨#[]⟩,[]⟩=true:=rfl
  rw[zp]at Fa
  simp only[aU.dv,List.map_nil]at Fa
  change run ak 24 _ []=some (bz (jS l.dB),[])at eK
  generalize jS l.dB=c at eK⊢
  cases c with
  | none=>
    simp only[bz]at eK
    simp only[ck,go_sem,eK,Bool.not_false,Option.isSome,Bool.and_false]
  | some e=>
    simp only[bz,e6]at eK
    cases ja:decide (l.text.size=0)
    ·simp only[ck,go_sem,eK,Bool.not_true,toList_nil,aD,ja,Bool.true_and,Bool.false_and,Bool.and_false,Option.isSome]
    ·cases hm:tJ l.dM
     ·have fin:=fin _ hm
      simp only[ck,go_sem,eK,Bool.not_true,toList_nil,aD,ja,fin,Bool.true_and,Bool.and_true,Bool.false_and,Option.isSome]
     ·have fin:=fin _ hm
      simp only[ck,go_sem,eK,Bool.not_true,toList_nil,aD,ja,fin,Fa,Bool.true_and,Bool.and_true,Option.isSome]
 rw[if_neg ck]
 have Fb:(l.kind==4)=false:=by simpa using ck
 simp only[go_sem,aq,aF,arX,Fb]
end Go.aB
namespace Go.aB
open Go Go.Proofs
set_option maxRecDepth 10000
set_option maxHeartbeats 4000000
def kT (l:bQ):Prop:=l.text.size≤1048576∧l.dM.a.size≤1048576∧l.dM.b.size≤1048576∧l.dM.c.size≤1048576∧ee l.dB.enc≤1048576
theorem apB (l:bQ) (h:kT l):run ak 40 [l.enc] []=some (.bool (!iJ l),[]):=by
 have LB:=apA l h.1 h.2.1 h.2.2.1 h.2.2.2.1 h.2.2.2.2
 simp only[bQ.enc]at LB
 rw[run_eq ak 40 _ _ Tryz.func40 (by decide+kernel) rfl (show 1≤_ by decide)]
 dsimp only[Tryz.f40]
 simp only[go_sem,LB]
def js (ls:List bQ):Bool:=decide (ls.length≤8)&&ls.all iJ
theorem Fc (ls:List bQ) (ai:ls.length≤1048576) (h:∀l∈ls,kT l):run ak 16 [.agg [.slc false 8 (ls.map bQ.enc)]] []=some (.bool (js ls),[]):=by
 have Fe:=aoy ls (by omega) (fun l=>!iJ l) 40 (fun _=>rfl) (fun x U=>apB x (h x U))
 have e:∀l:List bQ,l.any (fun l=>!iJ l)=!l.all iJ:=by
  intro l
  induction l with
  | nil=>rfl
  | cons a l ag=>rw[List.any_cons,List.all_cons,ag,Bool.not_and]
 rw[e]at Fe
 unfold js
 rw[run_eq ak 16 _ _ Tryz.func16 (by decide+kernel) rfl (show 1≤_ by decide)]
 dsimp only[Tryz.f16]
 generalize ls.all iJ=A at Fe⊢
 by_cases k:ls.length≤8
 ·have bI:(ls.length:Int)≤8:=by omega
  simp only[go_sem,k,bI,Fe,Bool.true_and,Bool.not_not,decide_true]
 ·have bI:¬(ls.length:Int)≤8:=by omega
  simp only[go_sem,k,bI,Bool.false_and,decide_false]
end Go.aB
