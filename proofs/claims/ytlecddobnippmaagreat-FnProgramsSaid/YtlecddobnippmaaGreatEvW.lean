/- Automata: the reference's minimal one, its result seen by nobody else. The program's minimal automaton, seen by nobody else. Searches of pairs of states. Searches of states with sets. -/
import Derived.Test.YtlecddobnippmaaGreatEvV
import Derived.Test.YtlecddobnippmaaGreatEvP
import Derived.Test.YtlecddobnippmaaGreatEvQ
set_option linter.unusedVariables false
set_option linter.unusedSimpArgs false
namespace Go.aB
open Go Go.Proofs
set_option maxRecDepth 10000
set_option maxHeartbeats 4000000
theorem aoM (s:ab) (objs:_) (l:List V):lO s objs (gO l)=some (gO l):=by
 cases l<;>rfl
attribute [go_sem high] aoM
theorem vS {α β:Type} (f:β→V) (g:α→β) {l:List α} (h:l≠[]):gO ((l.map g).map f)=.uq 1 ((l.map g).map f):=Ax f (by simpa using h)
theorem vT (d:ao) (aj:d.ok) (aC:d.accept.length≤1048576) (A8:1≤d.accept.length):run ak 88 [d.enc] []=some ((xJ d).dX,[]):=by
 have ED:=aoH d aj aC
 have fm:=Uf d d.accept.length
 have aL:=fun(q:Nat) (h:q<d.accept.length)=>IC (d:=d) (k:=d.accept.length) (q:=q) h
 unfold xJ
 generalize rounds d (d.accept.length+1) (dW d)=c at ED fm aL⊢
 have bn:=aL 0 (by omega)
 have hP:(0:Int)<c.length:=by omega
 have z2:0<c.length:=by omega
 simp only[ao.enc]at ED
 generalize cn:(some ((ofList d c (vk d c (ba c 0))).dX,([]:List (Nat→Option ax))))=cO
 have cK:eF (hd d c) d.accept.length [ba c 0] 0=vk d c (ba c 0):=rfl
 have EE:1≤(vk d c (ba c 0)).length:=by
  rw[←cK]
  exact(iS (hd d c) d.accept.length [ba c 0] 0).length_le
 generalize vk d c (ba c 0)=L at cn cK EE
 have yo:L≠[]:=fun e=>by rw[e]at EE;exact absurd EE (by decide)
 have aoN:∀v:V,(c.map aQ).getD 0 v=aQ (ba c 0):=fun v=>iF z2 v
 rw[run_eq ak 88 _ _ Tryz.func88 (by decide+kernel) rfl (show 1≤_ by decide)]
 dsimp only[Tryz.f88]
 simp only[go_sem,ED,hP,aoN]
 refine(cz (fun x:Nat×List Nat=>x.1≤x.2.length∧eF (hd d c) (d.accept.length-x.1) x.2 x.1=L∧x.2.Nodup∧∀y∈x.2,y<d.accept.length) (fun x=>{t:=ae (ae (ae (ae (ae (ae bH 6 (.int .i64 x.1)) 5 (.ptr 0 5 0)) 4 (.slc true 1 (x.2.map aQ))) 3 (.slc false 1 (c.map aQ))) 2 (.ptr 0 2 0)) 1 (.ptr 0 1 0),b:=ae (ae (ae bk 5 (some (ax.box [gO (((x.2.take x.1).map (bB d)).map B),gO (((x.2.take x.1).map fun q=>rowOf L (hd d c q)).map gP)]))) 2 (some (ax.box [.slc true 1 [],.slc true 1 []]))) 1 (some (ax.box [.slc false 1 (d.accept.map B),.slc false 1 (d.next.map bu)])),o:=[],r:=#[ResultVar.cell 2 31],f:=88,n:=76}) (fun _=>cO) (fun x=>d.accept.length-x.1) ?_ (0,[ba c 0]) ⟨Nat.zero_le _,cK,by simp,by intro y aA;rw[List.mem_singleton.1 aA];exact bn⟩)
 rintro⟨i,l⟩ ⟨hi,ad,h7,yp⟩ ag
 dsimp only at hi ad h7 yp⊢
 have KU:=nv h7 yp
 by_cases h:i<l.length
 rotate_left
 ·have aq:¬(i:Int)<l.length:=by omega
  rw[ki h]at ad
  subst ad
  have e:l.take i=l:=List.take_of_length_le (by omega)
  rw[e,←cn,vS _ _ yo,vS _ _ yo]
  simp only[go_sem,aq,ao.dX,ofList]
 have aq:(i:Int)<l.length:=by omega
 have U:=yp l[i] (List.getElem_mem h)
 have fH:∀v:V,(l.map aQ).getD i v=aQ l[i]:=fun v=>getD_map h v
 obtain⟨t0,t1,t2⟩:=ao.ie aj U
 have wG:eF (hd d c) (d.accept.length-(i+1)) (b0 l (hd d c l[i])) (i+1)=L:=by
  have e:d.accept.length-i=(d.accept.length-(i+1))+1:=by omega
  rw[e,lb h]at ad
  exact ad
 have rI:=iS (hd d c) (d.accept.length-(i+1)) (b0 l (hd d c l[i])) (i+1)
 rw[wG]at rI
 have a1:=ag (i+1,b0 l (hd d c l[i])) ⟨by have:=(fG l (hd d c l[i])).length_le;show i+1≤(b0 l (hd d c l[i])).length;omega,wG,rh h7,fun y aA=>by
  rcases la.1 aA with aA | aA | aA | aA
  ·exact yp y aA
  ·rw[aA];exact aL _ t0
  ·rw[aA];exact aL _ t1
  ·rw[aA];exact aL _ t2⟩ (by show d.accept.length-(i+1)<d.accept.length-i;omega)
 dsimp only at a1
 have A9:(b0 l (hd d c l[i])).take (i+1)≠[]:=by rw[s8 (fG l (hd d c l[i])) h];exact List.append_ne_nil_of_right_ne_nil _ (List.cons_ne_nil _ _)
 rw[vS _ _ A9,vS _ _ A9,s8 (fG l (hd d c l[i])) h,List.map_append,List.map_append,List.map_append,List.map_append]at a1
 have aoO:(b0 l (hd d c l[i])).length≤1048576:=by
  have:=nv (rh (t:=hd d c l[i]) h7) (n:=d.accept.length) (fun y aA=>by
   rcases la.1 aA with aA | aA | aA | aA
   ·exact yp y aA
   ·rw[aA];exact aL _ t0
   ·rw[aA];exact aL _ t1
   ·rw[aA];exact aL _ t2)
  omega
 clear ag
 have b1:=cr (n:=i) (by omega)
 have dK:(l[i]:Int)<d.next.length:=by rw[aj.1];omega
 have kc:l[i]<d.next.length:=by rw[aj.1];omega
 have sw:(l[i]:Int)<d.accept.length:=by omega
 generalize aE:l[i]=q at*
 have al:hd d c q=(ba c (d.aN q).1,ba c (d.aN q).2.1,ba c (d.aN q).2.2):=rfl
 rw[←fm]at t0 t1 t2
 have KV:((d.aN q).1:Int)<c.length:=by omega
 have KW:((d.aN q).2.1:Int)<c.length:=by omega
 have zI:((d.aN q).2.2:Int)<c.length:=by omega
 have g0:=iF t0
 have g1:=iF t1
 have g2:=iF t2
 have vU:=hW kc
 rw[al]at rI aoO a1
 generalize ba c (d.aN q).1=a0 at*
 generalize ba c (d.aN q).2.1=aT at*
 generalize ba c (d.aN q).2.2=a2 at*
 simp only[go_sem,aq]
 refine cz (fun k:Nat=>k≤3) (fun k=>{t:=ae (ae (ae (ae (ae (ae (ae (ae bH 8 (.int .i64 k)) 7 (gO ((([a0,aT,a2].take k).map L.idxOf).map aQ))) 6 (.int .i64 i)) 5 (.ptr 0 5 0)) 4 (.slc true 1 ((([a0,aT,a2].take k).foldl ins l).map aQ))) 3 (.slc false 1 (c.map aQ))) 2 (.ptr 0 2 0)) 1 (.ptr 0 1 0),b:=ae (ae (ae bk 5 (some (ax.box [gO (((l.take i).map (bB d)).map B),gO (((l.take i).map fun q=>rowOf L (hd d c q)).map gP)]))) 2 (some (ax.box [.slc true 1 [],.slc true 1 []]))) 1 (some (ax.box [.slc false 1 (d.accept.map B),.slc false 1 (d.next.map bu)])),o:=[],r:=#[ResultVar.cell 2 31],f:=88,n:=76}) (fun _=>cO) (fun k=>3-k) ?_ 0 (Nat.zero_le _)
 intro k ay tv
 by_cases pJ:k=3
 ·subst pJ
  have cj:([a0,aT,a2].take 3).foldl ins l=b0 l (a0,aT,a2):=rfl
  have da:gO ((([a0,aT,a2].take 3).map L.idxOf).map aQ)=.uq 1 [.int .i64 (L.idxOf a0),.int .i64 (L.idxOf aT),.int .i64 (L.idxOf a2)]:=rfl
  rw[cj,da]
  have iU:=fG l (a0,aT,a2)
  have jJ:i<(b0 l (a0,aT,a2)).length:=Nat.lt_of_lt_of_le h iU.length_le
  have KX:(i:Int)<(b0 l (a0,aT,a2)).length:=by omega
  have oc:∀v:V,((b0 l (a0,aT,a2)).map aQ).getD i v=aQ q:=fun v=>by
   rw[getD_map jJ]
   refine congrArg aQ ?_
   obtain⟨m,hm⟩:=iU
   have:(b0 l (a0,aT,a2))[i]?=some q:=by rw[←hm,List.getElem?_append_left h,List.getElem?_eq_getElem h,aE]
   rw[List.getElem?_eq_getElem jJ]at this
   exact Option.some.inj this
  have n8:=kH (l:=d.accept) U
  have bL:(min i l.length+1)*1≤140737488355328:=by omega
  have cx:(min i l.length+1)*24≤140737488355328:=by omega
  simp only[go_sem]
  rw[arR]
  rotate_left
  ·kernel_rfl
  have rH:List.map gP (List.map (fun q=>rowOf L (hd d c q)) [q])=[V.uq 1 [.int .i64 (L.idxOf a0),.int .i64 (L.idxOf aT),.int .i64 (L.idxOf a2)]]:=by
   simp only[List.map_cons,List.map_nil,al,rowOf,gP]
  rw[rH]at a1
  by_cases vV:i=0
  ·have ja:l.take i=[]:=by rw[vV];rfl
   have jM:gO ((([]:List Nat).map (bB d)).map B)=.slc true 1 []:=rfl
   have EF:gO ((([]:List Nat).map fun q=>rowOf L (hd d c q)).map gP)=.slc true 1 []:=rfl
   have mV:((0:Nat)+1)*1≤140737488355328:=by decide
   have c8:((0:Nat)+1)*24≤140737488355328:=by decide
   rw[ja]at a1⊢
   rw[jM,EF]
   simp only[List.map_nil,List.nil_append]at a1
   simp only[go_sem,still,KX,oc,sw,n8,bL,cx,mV,c8,eq_self,b1]
   exact a1
  ·have vP:l.take i≠[]:=fun e=>by
    have:=congrArg List.length e
    rw[List.length_take,List.length_nil]at this
    omega
   rw[vS _ _ vP,vS _ _ vP]
   simp only[go_sem,still,KX,oc,sw,n8,bL,cx,eq_self,b1]
   exact a1
 by_cases kf:k=0
 ·subst kf
  have dc:ins (([a0,aT,a2].take 0).foldl ins l) a0 <+: L:=((ig _ _).trans ((ig _ _).trans rI))
  have hlen:(([a0,aT,a2].take 0).foldl ins l).length≤1048576:=by
   have J:=(ig (([a0,aT,a2].take 0).foldl ins l) a0).length_le
   have aa:(ins (([a0,aT,a2].take 0).foldl ins l) a0).length≤(b0 l (a0,aT,a2)).length:=List.IsPrefix.length_le ((ig _ _).trans (ig _ _))
   omega
  have jb:=tv (0+1) (by omega) (by omega)
  have bo:([a0,aT,a2].take (0+1)).foldl ins l=ins (([a0,aT,a2].take 0).foldl ins l) a0:=rfl
  have kp:gO ((([a0,aT,a2].take (0+1)).map L.idxOf).map aQ)=.uq 1 [.int .i64 (L.idxOf a0)]:=rfl
  have yq:gO ((([a0,aT,a2].take 0).map L.idxOf).map aQ)=.slc true 1 []:=rfl
  rw[yq]
  have iU:l <+: ([a0,aT,a2].take 0).foldl ins l:=List.prefix_refl l
  rw[bo,kp]at jb
  have rJ:i<(([a0,aT,a2].take 0).foldl ins l).length:=Nat.lt_of_lt_of_le h iU.length_le
  have mf:∀v:V,((([a0,aT,a2].take 0).foldl ins l).map aQ).getD i v=aQ q:=fun v=>by
   rw[getD_map rJ]
   refine congrArg aQ ?_
   obtain⟨m,hm⟩:=iU
   have:(([a0,aT,a2].take 0).foldl ins l)[i]?=some q:=by rw[←hm,List.getElem?_append_left h,List.getElem?_eq_getElem h,aE]
   rw[List.getElem?_eq_getElem rJ]at this
   exact Option.some.inj this
  have rK:(i:Int)<(([a0,aT,a2].take 0).foldl ins l).length:=by omega
  have oL:=tu ((([a0,aT,a2].take 0).foldl ins l).map fun n:Nat=>(n:Int)) (by rw[List.length_map];exact hlen) (a0:Int)
  have hY:=tu ((ins (([a0,aT,a2].take 0).foldl ins l) a0).map fun n:Nat=>(n:Int)) (by rw[List.length_map];have aa:(ins (([a0,aT,a2].take 0).foldl ins l) a0).length≤(b0 l (a0,aT,a2)).length:=List.IsPrefix.length_le ((ig _ _).trans (ig _ _));omega) (a0:Int)
  rw[←vl]at oL hY
  rw[s9.1 L dc]at hY
  have rL:=s9 (l:=([a0,aT,a2].take 0).foldl ins l) (x:=a0) |>.2
  generalize ([a0,aT,a2].take 0).foldl ins l=fY at*
  generalize fv (fun y:Int=>y==(a0:Int)) (fY.map fun n:Nat=>(n:Int)) 0=pos at oL rL
  have mg:((0:Nat):Int)=0:=rfl
  have cT:IntKind.i64.wrap ((0:Int)+1)=((0+1:Nat):Int):=by decide
  have mV:(fY.length+1)*8≤140737488355328:=by omega
  have bL:(0+1)*8≤140737488355328:=by omega
  by_cases hm:a0∈fY
  ·have arM:¬((L.idxOf a0:Nat):Int)<0:=by omega
   have oM:ins fY a0=fY:=if_pos hm
   rw[oM]at hY jb
   simp only[go_sem,mg]
   rw[arO]
   rotate_left
   ·kernel_rfl
   simp only[go_sem,rK,mf,dK,vU,KV,g0,hY,arM,bL,cT]
   exact jb
  ·have arM:pos<0:=rL.2 hm
   have oM:ins fY a0=fY++[a0]:=if_neg hm
   rw[oM]at hY jb
   have kn:(fY++[a0]).map aQ=fY.map aQ++[.int .i64 a0]:=by rw[List.map_append];rfl
   rw[kn]at hY jb
   simp only[go_sem,mg]
   rw[arO]
   rotate_left
   ·kernel_rfl
   simp only[go_sem,rK,mf,dK,vU,KV,g0,oL,arM,mV,bL,hY,cT]
   exact jb
 by_cases od:k=1
 ·subst od
  have dc:ins (([a0,aT,a2].take 1).foldl ins l) aT <+: L:=((ig _ _).trans rI)
  have hlen:(([a0,aT,a2].take 1).foldl ins l).length≤1048576:=by
   have J:=(ig (([a0,aT,a2].take 1).foldl ins l) aT).length_le
   have aa:(ins (([a0,aT,a2].take 1).foldl ins l) aT).length≤(b0 l (a0,aT,a2)).length:=List.IsPrefix.length_le (ig _ _)
   omega
  have jb:=tv (1+1) (by omega) (by omega)
  have bo:([a0,aT,a2].take (1+1)).foldl ins l=ins (([a0,aT,a2].take 1).foldl ins l) aT:=rfl
  have kp:gO ((([a0,aT,a2].take (1+1)).map L.idxOf).map aQ)=.uq 1 [.int .i64 (L.idxOf a0),.int .i64 (L.idxOf aT)]:=rfl
  have yq:gO ((([a0,aT,a2].take 1).map L.idxOf).map aQ)=.uq 1 [.int .i64 (L.idxOf a0)]:=rfl
  rw[yq]
  have iU:l <+: ([a0,aT,a2].take 1).foldl ins l:=ig l a0
  rw[bo,kp]at jb
  have rJ:i<(([a0,aT,a2].take 1).foldl ins l).length:=Nat.lt_of_lt_of_le h iU.length_le
  have mf:∀v:V,((([a0,aT,a2].take 1).foldl ins l).map aQ).getD i v=aQ q:=fun v=>by
   rw[getD_map rJ]
   refine congrArg aQ ?_
   obtain⟨m,hm⟩:=iU
   have:(([a0,aT,a2].take 1).foldl ins l)[i]?=some q:=by rw[←hm,List.getElem?_append_left h,List.getElem?_eq_getElem h,aE]
   rw[List.getElem?_eq_getElem rJ]at this
   exact Option.some.inj this
  have rK:(i:Int)<(([a0,aT,a2].take 1).foldl ins l).length:=by omega
  have oL:=tu ((([a0,aT,a2].take 1).foldl ins l).map fun n:Nat=>(n:Int)) (by rw[List.length_map];exact hlen) (aT:Int)
  have hY:=tu ((ins (([a0,aT,a2].take 1).foldl ins l) aT).map fun n:Nat=>(n:Int)) (by rw[List.length_map];have aa:(ins (([a0,aT,a2].take 1).foldl ins l) aT).length≤(b0 l (a0,aT,a2)).length:=List.IsPrefix.length_le (ig _ _);omega) (aT:Int)
  rw[←vl]at oL hY
  rw[s9.1 L dc]at hY
  have rL:=s9 (l:=([a0,aT,a2].take 1).foldl ins l) (x:=aT) |>.2
  generalize ([a0,aT,a2].take 1).foldl ins l=fY at*
  generalize fv (fun y:Int=>y==(aT:Int)) (fY.map fun n:Nat=>(n:Int)) 0=pos at oL rL
  have mg:((1:Nat):Int)=1:=rfl
  have cT:IntKind.i64.wrap ((1:Int)+1)=((1+1:Nat):Int):=by decide
  have mV:(fY.length+1)*8≤140737488355328:=by omega
  have bL:(1+1)*8≤140737488355328:=by omega
  by_cases hm:aT∈fY
  ·have arM:¬((L.idxOf aT:Nat):Int)<0:=by omega
   have oM:ins fY aT=fY:=if_pos hm
   rw[oM]at hY jb
   simp only[go_sem,mg]
   rw[arO]
   rotate_left
   ·kernel_rfl
   simp only[go_sem,rK,mf,dK,vU,KW,g1,hY,arM,bL,cT]
   exact jb
  ·have arM:pos<0:=rL.2 hm
   have oM:ins fY aT=fY++[aT]:=if_neg hm
   rw[oM]at hY jb
   have kn:(fY++[aT]).map aQ=fY.map aQ++[.int .i64 aT]:=by rw[List.map_append];rfl
   rw[kn]at hY jb
   simp only[go_sem,mg]
   rw[arO]
   rotate_left
   ·kernel_rfl
   simp only[go_sem,rK,mf,dK,vU,KW,g1,oL,arM,mV,bL,hY,cT]
   exact jb
 by_cases pb:k=2
 ·subst pb
  have dc:ins (([a0,aT,a2].take 2).foldl ins l) a2 <+: L:=rI
  have hlen:(([a0,aT,a2].take 2).foldl ins l).length≤1048576:=by
   have J:=(ig (([a0,aT,a2].take 2).foldl ins l) a2).length_le
   have aa:(ins (([a0,aT,a2].take 2).foldl ins l) a2).length≤(b0 l (a0,aT,a2)).length:=List.IsPrefix.length_le (List.prefix_refl _)
   omega
  have jb:=tv (2+1) (by omega) (by omega)
  have bo:([a0,aT,a2].take (2+1)).foldl ins l=ins (([a0,aT,a2].take 2).foldl ins l) a2:=rfl
  have kp:gO ((([a0,aT,a2].take (2+1)).map L.idxOf).map aQ)=.uq 1 [.int .i64 (L.idxOf a0),.int .i64 (L.idxOf aT),.int .i64 (L.idxOf a2)]:=rfl
  have yq:gO ((([a0,aT,a2].take 2).map L.idxOf).map aQ)=.uq 1 [.int .i64 (L.idxOf a0),.int .i64 (L.idxOf aT)]:=rfl
  rw[yq]
  have iU:l <+: ([a0,aT,a2].take 2).foldl ins l:=(ig l a0).trans (ig _ aT)
  rw[bo,kp]at jb
  have rJ:i<(([a0,aT,a2].take 2).foldl ins l).length:=Nat.lt_of_lt_of_le h iU.length_le
  have mf:∀v:V,((([a0,aT,a2].take 2).foldl ins l).map aQ).getD i v=aQ q:=fun v=>by
   rw[getD_map rJ]
   refine congrArg aQ ?_
   obtain⟨m,hm⟩:=iU
   have:(([a0,aT,a2].take 2).foldl ins l)[i]?=some q:=by rw[←hm,List.getElem?_append_left h,List.getElem?_eq_getElem h,aE]
   rw[List.getElem?_eq_getElem rJ]at this
   exact Option.some.inj this
  have rK:(i:Int)<(([a0,aT,a2].take 2).foldl ins l).length:=by omega
  have oL:=tu ((([a0,aT,a2].take 2).foldl ins l).map fun n:Nat=>(n:Int)) (by rw[List.length_map];exact hlen) (a2:Int)
  have hY:=tu ((ins (([a0,aT,a2].take 2).foldl ins l) a2).map fun n:Nat=>(n:Int)) (by rw[List.length_map];have aa:(ins (([a0,aT,a2].take 2).foldl ins l) a2).length≤(b0 l (a0,aT,a2)).length:=List.IsPrefix.length_le (List.prefix_refl _);omega) (a2:Int)
  rw[←vl]at oL hY
  rw[s9.1 L dc]at hY
  have rL:=s9 (l:=([a0,aT,a2].take 2).foldl ins l) (x:=a2) |>.2
  generalize ([a0,aT,a2].take 2).foldl ins l=fY at*
  generalize fv (fun y:Int=>y==(a2:Int)) (fY.map fun n:Nat=>(n:Int)) 0=pos at oL rL
  have mg:((2:Nat):Int)=2:=rfl
  have cT:IntKind.i64.wrap ((2:Int)+1)=((2+1:Nat):Int):=by decide
  have mV:(fY.length+1)*8≤140737488355328:=by omega
  have bL:(2+1)*8≤140737488355328:=by omega
  by_cases hm:a2∈fY
  ·have arM:¬((L.idxOf a2:Nat):Int)<0:=by omega
   have oM:ins fY a2=fY:=if_pos hm
   rw[oM]at hY jb
   simp only[go_sem,mg]
   rw[arO]
   rotate_left
   ·kernel_rfl
   simp only[go_sem,rK,mf,dK,vU,zI,g2,hY,arM,bL,cT]
   exact jb
  ·have arM:pos<0:=rL.2 hm
   have oM:ins fY a2=fY++[a2]:=if_neg hm
   rw[oM]at hY jb
   have kn:(fY++[a2]).map aQ=fY.map aQ++[.int .i64 a2]:=by rw[List.map_append];rfl
   rw[kn]at hY jb
   simp only[go_sem,mg]
   rw[arO]
   rotate_left
   ·kernel_rfl
   simp only[go_sem,rK,mf,dK,vU,zI,g2,oL,arM,mV,bL,hY,cT]
   exact jb
 omega
end Go.aB
namespace Go.aB
open Go Go.Proofs
set_option maxRecDepth 10000
set_option maxHeartbeats 4000000
theorem KY (a b:Nat):ea Tryz.prog 3 (aQ a) (aQ b)=some (decide (a=b)):=by
 show ea Tryz.prog 3 (.int .i64 (a:Int)) (.int .i64 (b:Int))=_
 rw[EA,kh]
 rfl
theorem KZ (a b:lf):ea Tryz.prog 108 (vq a) (vq b)=some (decide (a=b)):=by
 show ea Tryz.prog 108 (.agg [.int .i64 (a.1:Int),.int .i64 (a.2.1:Int),.int .i64 (a.2.2.1:Int),.int .i64 (a.2.2.2:Int)]) (.agg [.int .i64 (b.1:Int),.int .i64 (b.2.1:Int),.int .i64 (b.2.2.1:Int),.int .i64 (b.2.2.2:Int)])=_
 rw[KQ,U1]
theorem vW (d:ao) (aj:d.ok) (aC:d.accept.length≤1048576) (s:Nat) (al:s<d.accept.length):run ak 48 [d.enc,.int .i64 s] []=some ((cF d s).dX,[]):=by
 have oh:d.next.length=d.accept.length:=aj.1
 have im:=fun q l=>xT (P:=Tryz.prog) (kt:=3) (enc:=aQ) KY q l 0
 have nH:=fun q l (h:q∉l)=>xU (P:=Tryz.prog) (kt:=3) (enc:=aQ) KY (x:=q) l 0 h
 simp only[Nat.zero_add,aQ]at im nH
 have EG:=fun key l=>xT (P:=Tryz.prog) (kt:=108) (enc:=vq) KZ key l 0
 have K0:=fun key l (h:key∉l)=>xU (P:=Tryz.prog) (kt:=108) (enc:=vq) KZ (x:=key) l 0 h
 simp only[Nat.zero_add,vq,aQ]at EG K0
 generalize cn:(some ((cF d s).dX,([]:List (Nat→Option ax))))=cO
 rw[run_eq ak 48 _ _ Tryz.func48 (by decide+kernel) rfl (show 2≤_ by decide)]
 dsimp only[Tryz.f48]
 simp only[go_sem]
 refine cz (fun p:Nat×List Nat=>p.1≤p.2.length∧p.2.Nodup∧(∀x∈p.2,x<d.accept.length)∧eF d.aN (d.accept.length-p.1) p.2 p.1=order d s) (fun p=>{t:=ae (ae (ae (ae (ae bH 7 (.int .i64 p.1)) 6 (.mp 0 38)) 5 (.slc true 1 (p.2.map aQ))) 4 (.ptr 0 4 0)) 2 (.ptr 0 2 0),b:=ae (ae (ae bk 38 (some (ax.map (hg aQ 0 p.2)))) 4 (some (ax.box [.slc true 1 [],.slc true 1 []]))) 2 (some (ax.box [.slc false 1 (d.accept.map B),.slc false 1 (d.next.map bu)])),o:=[],r:=#[ResultVar.cell 4 31],f:=48,n:=243}) (fun _=>cO) (fun p=>d.accept.length-p.1) ?_ (0,[s]) ⟨Nat.zero_le _,by simp,by simpa using al,rfl⟩
 rintro⟨i,l⟩ ⟨hi,h7,aL,ad⟩ ag
 dsimp only at hi h7 aL ad⊢
 have CI:=nv h7 aL
 by_cases h:i<l.length
 ·have aq:(i:Int)<l.length:=by omega
  have b1:=cr (n:=i) (by omega)
  have U:=aL _ (List.getElem_mem h)
  have av:∀v:V,(l.map aQ).getD i v=aQ l[i]:=fun v=>getD_map h v
  have aR:d.accept.length-i=(d.accept.length-(i+1))+1:=by omega
  rw[aR,lb h]at ad
  have Ba:=ao.ie aj U
  have a1:=ag (i+1,b0 l (d.aN l[i])) ⟨Nat.le_trans h (fG _ _).length_le,rh h7,xO aL Ba,ad⟩ (by show d.accept.length-(i+1)<d.accept.length-i;omega)
  clear ag
  have jc:(l[i]:Int)<d.next.length:=by omega
  have k0:∀v:V,(d.next.map bu).getD l[i] v=bu (d.aN l[i]):=fun v=>hW (by omega) v
  generalize l[i]=c5 at U av Ba jc k0 a1 ad
  generalize d.aN c5=aS at Ba k0 a1 ad
  simp only[go_sem,aq]
  rw[arO]
  rotate_left
  ·kernel_rfl
  simp only[go_sem,aq,av,jc,k0]
  have hle:(b0 l aS).length≤d.accept.length:=nv (rh h7) (xO aL Ba)
  refine cz (fun j:Nat=>j≤3) (fun j=>{t:=ae (ae (ae (ae (ae (ae (ae (ae bH 56 (.int .i64 j)) 55 (.int .i64 3)) 54 (.slc false 1 ((dp aS).map aQ))) 7 (.int .i64 i)) 6 (.mp 0 38)) 5 (.slc true 1 ((((dp aS).take j).foldl ins l).map aQ))) 4 (.ptr 0 4 0)) 2 (.ptr 0 2 0),b:=ae (ae (ae bk 38 (some (ax.map (hg aQ 0 (((dp aS).take j).foldl ins l))))) 4 (some (ax.box [.slc true 1 [],.slc true 1 []]))) 2 (some (ax.box [.slc false 1 (d.accept.map B),.slc false 1 (d.next.map bu)])),o:=[],r:=#[ResultVar.cell 4 31],f:=48,n:=243}) (fun _=>cO) (fun j=>3-j) ?_ 0 (by omega)
  intro j au lA
  by_cases aZ:j<3
  rotate_left
  ·obtain rfl:j=3:=by omega
   have cj:((dp aS).take 3).foldl ins l=b0 l aS:=rfl
   rw[cj]
   have aW:¬((3:Nat):Int)<3:=by omega
   simp only[go_sem,aW,b1]
   exact a1
  have aF:(j:Int)<3:=by omega
  have aW:(j:Int)<(dp aS).length:=by rw[iH];omega
  have fX:=cr (n:=j) (by omega)
  have oc:∀v:V,((dp aS).map aQ).getD j v=aQ (dp aS)[j]:=fun v=>getD_map (by rw[iH];exact aZ) v
  have cp:=lA (j+1) (by omega) (by omega)
  rw[pE _ _ (by rw[iH];exact aZ)]at cp
  have dc:((dp aS).take (j+1)).foldl ins l <+: b0 l aS:=by
   rw[←I7]
   have e:(dp aS).foldl ins l=((dp aS).drop (j+1)).foldl ins (((dp aS).take (j+1)).foldl ins l):=by
    rw[←List.foldl_append,List.take_append_drop]
   rw[e]
   exact lg _ _
  rw[pE _ _ (by rw[iH];exact aZ)]at dc
  generalize ((dp aS).take j).foldl ins l=m at cp dc⊢
  generalize (dp aS)[j]=q at oc cp dc
  have f1:=im q m
  by_cases hm:q∈m
  ·rw[if_pos hm]at f1
   rw[ins,if_pos hm]at cp
   simp only[go_sem,aF,aW,oc,f1,fX,beq_self_eq_true]
   exact cp
  ·rw[if_neg hm]at f1
   rw[ins,if_neg hm]at cp dc
   have f2:=nH q m hm
   have f3:=im q (m++[q])
   have kS:m.length+1≤d.accept.length:=by
    have:=dc.length_le
    rw[List.length_append]at this
    simp only[List.length_cons,List.length_nil]at this
    omega
   have aT:(m.length+1)*8≤140737488355328:=by omega
   have es:=ID m q
   rw[es]at cp
   simp only[go_sem,aF,aW,oc,f1,f2,fX,beq_self_eq_true,aT]
   exact cp
 have aq:¬(i:Int)<l.length:=by omega
 rw[ki h]at ad
 subst ad
 have aoP:=DP d s
 have yr:=xR aj al
 have BS:=fun k=>U0 aj al (k:=k)
 clear ag hi h
 generalize order d s=O at*
 have EH:0<O.length:=List.length_pos_of_mem aoP
 have K1:(O.length:Int)*8≤140737488355328:=by omega
 simp only[go_sem,aq,K1]
 clear aq
 have f0:List.replicate O.length (V.int .i64 0)=fill (vr d) O (.int .i64 0) 0:=(Dr _ _ _).symm
 rw[f0]
 refine cz (fun i:Nat=>i≤O.length) (fun i=>{t:=ae (ae (ae (ae (ae (ae (ae (ae bH 82 (.int .i64 i)) 81 (.int .i64 O.length)) 80 (.slc false 1 (O.map aQ))) 12 (.bS 0 79 O.length)) 6 (.mp 0 38)) 5 (.slc true 1 (O.map aQ))) 4 (.ptr 0 4 0)) 2 (.ptr 0 2 0),b:=ae (ae (ae (ae bk 79 (some (ax.arr false 1 (fill (vr d) O (.int .i64 0) i)))) 38 (some (ax.map (hg aQ 0 O)))) 4 (some (ax.box [.slc true 1 [],.slc true 1 []]))) 2 (some (ax.box [.slc false 1 (d.accept.map B),.slc false 1 (d.next.map bu)])),o:=[],r:=#[ResultVar.cell 4 31],f:=48,n:=243}) (fun _=>cO) (fun i=>O.length-i) ?_ 0 (Nat.zero_le _)
 intro i hi ag
 have df:=xD (vr d) O (.int .i64 0) hi
 by_cases h:i<O.length
 ·have aq:(i:Int)<O.length:=by omega
  have w:=cr (n:=i) (by omega)
  have a1:=ag (i+1) (by omega) (by omega)
  have U:=aL _ (List.getElem_mem h)
  have av:∀v:V,(O.map aQ).getD i v=aQ O[i]:=fun v=>getD_map h v
  have jc:(O[i]:Int)<d.accept.length:=by omega
  have hZ:∀v:V,(d.accept.map B).getD O[i] v=B (bB d O[i]):=fun v=>kH U v
  cases ad:bB d O[i]
  ·rw[←Ix _ _ _ h (by unfold vr;rw[ad];rfl)]at a1
   rw[ad]at hZ
   simp only[go_sem,aq,w,av,jc,hZ]
   exact a1
  ·rw[←u6 _ _ _ h (.int .i64 1) (by unfold vr;rw[ad];rfl)]at a1
   rw[ad]at hZ
   simp only[go_sem,aq,w,av,jc,hZ,df,h]
   exact a1
 have aq:¬(i:Int)<O.length:=by omega
 obtain rfl:i=O.length:=by omega
 clear ag hi h
 simp only[go_sem,aq,df,Ad]
 rw[U2]
 have EI:=U3 d O
 generalize (O.map fun q=>if bB d q=true then 1 else 0)=cf at EI⊢
 refine cz (fun p:List Nat×Nat=>oC d O p.1 p.2∧p.2≤O.length) (fun p=>{t:=ae (ae (ae (ae (ae (ae bH 15 (.int .i64 p.2)) 12 (.slc false 1 (p.1.map aQ))) 6 (.mp 0 38)) 5 (.slc true 1 (O.map aQ))) 4 (.ptr 0 4 0)) 2 (.ptr 0 2 0),b:=ae (ae (ae bk 38 (some (ax.map (hg aQ 0 O)))) 4 (some (ax.box [.slc true 1 [],.slc true 1 []]))) 2 (some (ax.box [.slc false 1 (d.accept.map B),.slc false 1 (d.next.map bu)])),o:=[],r:=#[ResultVar.cell 4 31],f:=48,n:=243}) (fun _=>cO) (fun p=>O.length+1-p.2) ?_ (cf,0) ⟨EI,Nat.zero_le _⟩
 clear EI cf aq f0 df
 rintro⟨k,eA⟩ ⟨hinv,ys⟩ ag
 dsimp only at hinv ys⊢
 have mM:=hinv.len
 have vX:=hinv.next yr
 have K2:=I5 d O k
 have fl:=hinv.UY yr EH
 have K3:=hinv.ends yr EH
 have a1:=fun aY=>ag (jq d O k,(ij (eJ d O k)).length) ⟨vX,K2⟩ (by have:=fl aY;show O.length+1-(ij (eJ d O k)).length<O.length+1-eA;omega)
 clear ag
 dsimp only at a1
 have f0:List.replicate O.length (V.int .i64 0)=fill (rm d O k) (List.range O.length) (.int .i64 0) 0:=by rw[Dr,List.length_range]
 simp only[go_sem,K1]
 rw[f0]
 refine cz (fun i:Nat=>i≤O.length) (fun i=>{t:=ae (ae (ae (ae (ae (ae (ae (ae (ae (ae (ae bH 102 (.int .i64 i)) 101 (.int .i64 O.length)) 100 (.slc false 1 (O.map aQ))) 17 (.bS 0 99 O.length)) 16 (.mp 0 96)) 15 (.int .i64 eA)) 12 (.slc false 1 (k.map aQ))) 6 (.mp 0 38)) 5 (.slc true 1 (O.map aQ))) 4 (.ptr 0 4 0)) 2 (.ptr 0 2 0),b:=ae (ae (ae (ae (ae bk 99 (some (ax.arr false 1 (fill (rm d O k) (List.range O.length) (.int .i64 0) i)))) 96 (some (ax.map (hg vq 0 (((eJ d O k).take i).foldl ins []))))) 38 (some (ax.map (hg aQ 0 O)))) 4 (some (ax.box [.slc true 1 [],.slc true 1 []]))) 2 (some (ax.box [.slc false 1 (d.accept.map B),.slc false 1 (d.next.map bu)])),o:=[],r:=#[ResultVar.cell 4 31],f:=48,n:=243}) (fun _=>cO) (fun i=>O.length-i) ?_ 0 (Nat.zero_le _)
 intro i hi ag
 have df:=xD (rm d O k) (List.range O.length) (.int .i64 0) (i:=i) (by rw[List.length_range];exact hi)
 rw[List.length_range]at df
 by_cases h:i<O.length
 ·have aq:(i:Int)<O.length:=by omega
  have aF:(i:Int)<k.length:=by omega
  have w:=cr (n:=i) (by omega)
  have gU:=ag (i+1) (by omega) (by omega)
  clear ag
  have Bb:i<(eJ d O k).length:=by rw[I8];exact h
  rw[pE _ _ Bb,I9]at gU
  have dc:((eJ d O k).take (i+1)).foldl ins [] <+: ij (eJ d O k):=by
   have e:ij (eJ d O k)=((eJ d O k).drop (i+1)).foldl ins (((eJ d O k).take (i+1)).foldl ins []):=by
    unfold ij
    rw[←List.foldl_append,List.take_append_drop]
   rw[e]
   exact lg _ _
  rw[pE _ _ Bb,I9]at dc
  have cQ:aQ (pD (ij (eJ d O k)) (l8 d O k i))=rm d O k ((List.range O.length)[i]'(by rw[List.length_range];exact h)):=by rw[List.getElem_range];rfl
  rw[U7 dc (k9 _ _)]at cQ
  have aoQ:=I5 d O k
  have U:=aL _ (List.getElem_mem h)
  have av:∀v:V,(O.map aQ).getD i v=aQ O[i]:=fun v=>getD_map h v
  have mf:∀v:V,(k.map aQ).getD i v=aQ (ba k i):=fun v=>iF (by omega) v
  have jc:(O[i]:Int)<d.next.length:=by omega
  have k0:∀v:V,(d.next.map bu).getD O[i] v=bu (d.aN O[i]):=fun v=>hW (by omega) v
  have dr:=yr _ (List.getElem_mem h)
  have nI:l8 d O k i=(ba k i,ba k (O.idxOf (d.aN O[i]).1),ba k (O.idxOf (d.aN O[i]).2.1),ba k (O.idxOf (d.aN O[i]).2.2)):=by
   unfold l8
   rw[U6 h]
  generalize O[i]=q at U av jc k0 dr nI
  generalize d.aN q=aS at k0 dr nI
  have g1:=im aS.1 O
  have g2:=im aS.2.1 O
  have g3:=im aS.2.2 O
  rw[if_pos dr.1]at g1
  rw[if_pos dr.2.1]at g2
  rw[if_pos dr.2.2]at g3
  have l1:=iV dr.1
  have gG:=iV dr.2.1
  have EJ:=iV dr.2.2
  generalize O.idxOf aS.1=k2 at g1 l1 nI
  generalize O.idxOf aS.2.1=pn at g2 gG nI
  generalize O.idxOf aS.2.2=rM at g3 EJ nI
  have bL:(k2:Int)<k.length:=by omega
  have cx:(pn:Int)<k.length:=by omega
  have c8:(rM:Int)<k.length:=by omega
  have c4:∀v:V,(k.map aQ).getD k2 v=aQ (ba k k2):=fun v=>iF (by omega) v
  have cu:∀v:V,(k.map aQ).getD pn v=aQ (ba k pn):=fun v=>iF (by omega) v
  have cS:∀v:V,(k.map aQ).getD rM v=aQ (ba k rM):=fun v=>iF (by omega) v
  generalize ba k i=a0 at mf nI
  generalize ba k k2=aT at c4 nI
  generalize ba k pn=a2 at cu nI
  generalize ba k rM=a3 at cS nI
  simp only[go_sem,aq,aF,av,mf,jc,k0]
  rw[iter_eq]
  simp only[go_sem,g1,bL,c4]
  rw[iter_eq]
  simp only[go_sem,g2,cx,cu]
  rw[iter_eq]
  simp only[go_sem,g3,c8,cS]
  rw[iter_eq]
  generalize ((eJ d O k).take i).foldl ins []=qs at gU dc cQ⊢
  generalize l8 d O k i=key at gU dc cQ nI
  have f1:=EG key qs
  have f3:=EG key (ins qs key)
  change _=some (if key∈ins qs key then some (V.int .i64 (pD (ins qs key) key:Nat))else none)at f3
  change _=some (if key∈qs then some (V.int .i64 (pD qs key:Nat))else none)at f1
  rw[if_pos (k9 _ _)]at f3
  by_cases hm:key∈qs
  ·rw[if_pos hm]at f1
   rw[ins,if_pos hm]at gU f3 cQ
   rw[←u6 (rm d O k) (List.range O.length) (.int .i64 0) (by rw[List.length_range];exact h) _ cQ]at gU
   subst nI
   simp only[go_sem,f1,aq,h,w,df]
   exact gU
  ·rw[if_neg hm]at f1
   have f2:=K0 key qs hm
   rw[ins,if_neg hm]at gU f3 dc cQ
   have kS:qs.length≤O.length:=Nat.le_trans (by rw[List.length_append];omega) (Nat.le_trans dc.length_le aoQ)
   rw[←u6 (rm d O k) (List.range O.length) (.int .i64 0) (by rw[List.length_range];exact h) _ cQ]at gU
   subst nI
   simp only[go_sem,f1,f2,f3,aq,h,w,df,DW]
   exact gU
 have aq:¬(i:Int)<O.length:=by omega
 obtain rfl:i=O.length:=by omega
 clear ag hi h
 have vN:(eJ d O k).take O.length=eJ d O k:=List.take_of_length_le (by rw[I8];exact Nat.le_refl _)
 rw[vN]
 have bo:(eJ d O k).foldl ins []=ij (eJ d O k):=rfl
 rw[bo]
 have rC:=Ad (rm d O k) (List.range O.length) (.int .i64 0)
 rw[List.length_range,U4]at rC
 have j7:=I0 d O k
 by_cases aY:(ij (eJ d O k)).length=eA
 rotate_left
 ·have pw:=a1 aY
  have ad:(((ij (eJ d O k)).length:Int)==(eA:Int))=false:=by rw[kh];simpa using aY
  simp only[go_sem,aq,DW,ad,rC,j7]
  exact pw
 have ad:(((ij (eJ d O k)).length:Int)==(eA:Int))=true:=by rw[kh];simpa using aY
 have K4:=BS (jq d O k) (K3 aY)
 clear a1 K3 fl vX BS
 simp only[go_sem,aq,DW,ad,rC,j7]
 rw[←cn,←K4]
 clear cn cO K4 hinv ys aY ad rC vN bo mM K2 f0 aq
 generalize jq d O k=K at j7⊢
 clear k df
 generalize cn:(some ((AE d O K).dX,([]:List (Nat→Option ax))))=cO
 refine cz (fun i:Nat=>i≤O.length) (fun i=>{t:=ae (ae (ae (ae (ae (ae (ae (ae (ae (ae bH 164 (.int .i64 i)) 163 (.int .i64 O.length)) 27 (.slc true 1 ((bX (ba K) (List.range i)).map aQ))) 26 (.mp 0 160)) 25 (.ptr 0 25 0)) 12 (.slc false 1 (K.map aQ))) 6 (.mp 0 38)) 5 (.slc true 1 (O.map aQ))) 4 (.ptr 0 4 0)) 2 (.ptr 0 2 0),b:=ae (ae (ae (ae (ae bk 160 (some (ax.map (hg aQ 0 ((bX (ba K) (List.range i)).map (ba K)))))) 38 (some (ax.map (hg aQ 0 O)))) 25 (some (ax.box [.slc true 1 [],.slc true 1 []]))) 4 (some (ax.box [.slc true 1 [],.slc true 1 []]))) 2 (some (ax.box [.slc false 1 (d.accept.map B),.slc false 1 (d.next.map bu)])),o:=[],r:=#[ResultVar.cell 4 31],f:=48,n:=243}) (fun _=>cO) (fun i=>O.length-i) ?_ 0 (Nat.zero_le _)
 intro i hi ag
 have lB:=xN (ba K) (List.range i)
 rw[List.length_range]at lB
 by_cases h:i<O.length
 ·have aq:(i:Int)<O.length:=by omega
  have aF:(i:Int)<K.length:=by omega
  have w:=cr (n:=i) (by omega)
  have gU:=ag (i+1) (by omega) (by omega)
  clear ag
  have mf:∀v:V,(K.map aQ).getD i v=aQ (ba K i):=fun v=>iF (by omega) v
  rw[List.range_succ,Az]at gU
  generalize bX (ba K) (List.range i)=L at lB gU⊢
  have f1:=im (ba K i) (L.map (ba K))
  by_cases hm:∃y∈L,ba K y=ba K i
  ·have eT:ba K i∈L.map (ba K):=List.mem_map.2 hm
   rw[qj hm]at gU
   rw[if_pos eT]at f1
   simp only[go_sem,aq,aF,mf,f1,w]
   exact gU
  ·have eT:ba K i∉L.map (ba K):=fun e=>hm (List.mem_map.1 e)
   rw[pA hm,List.map_append,List.map_append]at gU
   rw[if_neg eT]at f1
   have f2:=nH (ba K i) (L.map (ba K)) eT
   rw[List.length_map]at f2
   have aT:(L.length+1)*8≤140737488355328:=by omega
   simp only[go_sem,aq,aF,mf,f1,f2,w,aT]
   exact gU
 have aq:¬(i:Int)<O.length:=by omega
 obtain rfl:i=O.length:=by omega
 clear ag hi h
 have K5:bX (ba K) (List.range O.length)=l9 O K:=rfl
 rw[K5]at lB⊢
 have aoR:∀p∈l9 O K,p<O.length:=fun p arM=>List.mem_range.1 (ld arM)
 have Bc:∀j,j<O.length→ba K j∈(l9 O K).map (ba K):=fun j au=>ta.2 ⟨j,List.mem_range.2 au,rfl⟩
 have rH:∀p,AD d O K p=rowOf ((l9 O K).map (ba K)) (ba K (O.idxOf (d.aN (dN O p)).1),ba K (O.idxOf (d.aN (dN O p)).2.1),ba K (O.idxOf (d.aN (dN O p)).2.2)):=fun p=>rfl
 have qe:AE d O K=⟨(l9 O K).map fun i=>bB d (dN O i),(l9 O K).map (AD d O K)⟩:=rfl
 rw[qe]at cn
 clear qe K5
 generalize l9 O K=iq at*
 simp only[go_sem,aq]
 clear aq
 have yo:iq≠[]:=fun e=>by
  have:=Bc 0 EH
  rw[e]at this
  cases this
 refine cz (fun i:Nat=>i≤iq.length) (fun i=>{t:=ae (ae (ae (ae (ae (ae (ae (ae (ae (ae bH 192 (.int .i64 i)) 191 (.int .i64 iq.length)) 190 (.slc false 1 (iq.map aQ))) 26 (.mp 0 160)) 25 (.ptr 0 25 0)) 12 (.slc false 1 (K.map aQ))) 6 (.mp 0 38)) 5 (.slc true 1 (O.map aQ))) 4 (.ptr 0 4 0)) 2 (.ptr 0 2 0),b:=ae (ae (ae (ae (ae bk 160 (some (ax.map (hg aQ 0 (iq.map (ba K)))))) 38 (some (ax.map (hg aQ 0 O)))) 25 (some (ax.box [gO (((iq.take i).map fun i=>bB d (dN O i)).map B),gO (((iq.take i).map (AD d O K)).map gP)]))) 4 (some (ax.box [.slc true 1 [],.slc true 1 []]))) 2 (some (ax.box [.slc false 1 (d.accept.map B),.slc false 1 (d.next.map bu)])),o:=[],r:=#[ResultVar.cell 4 31],f:=48,n:=243}) (fun _=>cO) (fun i=>iq.length-i) ?_ 0 (Nat.zero_le _)
 intro i hi ag
 by_cases h:i<iq.length
 rotate_left
 ·have aq:¬(i:Int)<iq.length:=by omega
  rw[List.take_of_length_le (by omega)]
  subst cn
  rw[List.map_map,List.map_map,Ax _ yo,Ax _ yo,←List.map_map,←List.map_map]
  simp only[go_sem,aq,ao.dX]
 have aq:(i:Int)<iq.length:=by omega
 have w:=cr (n:=i) (by omega)
 have gU:=ag (i+1) (by omega) (by omega)
 clear ag
 rw[nz h,List.map_append,List.map_append,List.map_append,List.map_append,List.map_cons,List.map_nil,List.map_cons,List.map_nil,List.map_cons,List.map_nil,List.map_cons,List.map_nil,rH]at gU
 have fH:∀v:V,(iq.map aQ).getD i v=aQ iq[i]:=fun v=>getD_map h v
 have arM:=aoR _ (List.getElem_mem h)
 have fe:(iq.take i).length=i:=by rw[List.length_take];omega
 have m9:∀v:V,(O.map aQ).getD iq[i] v=aQ (dN O iq[i]):=fun v=>U5 arM v
 have sB:(iq[i]:Int)<O.length:=by omega
 have K6:=xS arM
 generalize iq[i]=p at*
 have aE:=aL _ K6
 have dr:=yr _ K6
 generalize dN O p=q at*
 have jc:(q:Int)<d.next.length:=by omega
 have K7:(q:Int)<d.accept.length:=by omega
 have k0:∀v:V,(d.next.map bu).getD q v=bu (d.aN q):=fun v=>hW (by omega) v
 have hZ:∀v:V,(d.accept.map B).getD q v=B (bB d q):=fun v=>kH aE v
 generalize bB d q=ac at*
 generalize d.aN q=aS at*
 have g1:=im aS.1 O
 have g2:=im aS.2.1 O
 have g3:=im aS.2.2 O
 rw[if_pos dr.1]at g1
 rw[if_pos dr.2.1]at g2
 rw[if_pos dr.2.2]at g3
 have l1:=iV dr.1
 have gG:=iV dr.2.1
 have EJ:=iV dr.2.2
 have fk:=im (ba K (O.idxOf aS.1)) (iq.map (ba K))
 have hx:=im (ba K (O.idxOf aS.2.1)) (iq.map (ba K))
 have hN:=im (ba K (O.idxOf aS.2.2)) (iq.map (ba K))
 rw[if_pos (Bc _ l1)]at fk
 rw[if_pos (Bc _ gG)]at hx
 rw[if_pos (Bc _ EJ)]at hN
 unfold rowOf at gU
 dsimp only at gU
 generalize O.idxOf aS.1=k2 at*
 generalize O.idxOf aS.2.1=pn at*
 generalize O.idxOf aS.2.2=rM at*
 have bL:(k2:Int)<K.length:=by omega
 have cx:(pn:Int)<K.length:=by omega
 have c8:(rM:Int)<K.length:=by omega
 have c4:∀v:V,(K.map aQ).getD k2 v=aQ (ba K k2):=fun v=>iF (by omega) v
 have cu:∀v:V,(K.map aQ).getD pn v=aQ (ba K pn):=fun v=>iF (by omega) v
 have cS:∀v:V,(K.map aQ).getD rM v=aQ (ba K rM):=fun v=>iF (by omega) v
 have aT:(i+1)*1≤140737488355328:=by omega
 have a2:(i+1)*24≤140737488355328:=by omega
 rcases bO:iq.take i with _ | ⟨fW,X0⟩
 ·rw[bO]at gU fe
  simp only[List.map_nil,List.map_cons,List.nil_append,List.cons_append,gO]at gU⊢
  simp only[go_sem,aq,fH]
  rw[arO]
  rotate_left
  ·kernel_rfl
  simp only[go_sem,sB,m9,jc,k0]
  rw[iter_eq]
  simp only[go_sem,g1,bL,c4,fk]
  rw[iter_eq]
  simp only[go_sem,g2,cx,cu,hx]
  rw[iter_eq]
  simp only[go_sem,g3,c8,cS,hN]
  rw[iter_eq]
  simp only[go_sem]
  rw[arR]
  rotate_left
  ·kernel_rfl
  simp only[go_sem,still,sB,m9,K7,hZ,fe,aT,a2,w,eq_self]
  exact gU
 ·rw[bO]at gU fe
  simp only[List.map_nil,List.map_cons,List.nil_append,List.cons_append,gO]at gU⊢
  simp only[List.length_nil,List.length_cons]at fe
  subst fe
  simp only[go_sem,aq,fH]
  rw[arO]
  rotate_left
  ·kernel_rfl
  simp only[go_sem,sB,m9,jc,k0]
  rw[iter_eq]
  simp only[go_sem,g1,bL,c4,fk]
  rw[iter_eq]
  simp only[go_sem,g2,cx,cu,hx]
  rw[iter_eq]
  simp only[go_sem,g3,c8,cS,hN]
  rw[iter_eq]
  simp only[go_sem]
  rw[arR]
  rotate_left
  ·kernel_rfl
  simp only[go_sem,still,sB,m9,K7,hZ,List.length_cons,aT,a2,w,eq_self]
  exact gU
end Go.aB
namespace Go.aB
open Go Go.Proofs
set_option maxRecDepth 10000
set_option maxHeartbeats 4000000
def fj (p:Nat×Nat):V:=.agg [aQ p.1,aQ p.2]
theorem K8 (a b:Nat×Nat):ea Tryz.prog 88 (fj a) (fj b)=some (decide (a=b)):=by
 show ea Tryz.prog 88 (.agg [.int .i64 (a.1:Int),.int .i64 (a.2:Int)]) (.agg [.int .i64 (b.1:Int),.int .i64 (b.2:Int)])=_
 rw[KP]
 obtain⟨aT,a2⟩:=a
 obtain⟨bU,cv⟩:=b
 simp only[kh,Prod.mk.injEq,Bool.and_true,Option.some.injEq]
 rw[Bool.eq_iff_iff]
 simp
theorem aoS (succ:Nat×Nat→(Nat×Nat)×(Nat×Nat)×(Nat×Nat)) (acc:Nat×Nat→Bool) (most:Nat) (s:Nat×Nat) (Q:Nat×Nat→Prop) (yt:1≤most) (hm:most≤1048576) (al:Q s) (e5:∀x,Q x→Q (succ x).1∧Q (succ x).2.1∧Q (succ x).2.2)
 (fq fn:Nat) (iu h9:List V) (os:List (Nat→Option ax)) (aj:os.length≠0) (hG:∀(st:ab) (objs:_),st.o=os→iu.all (jZ st objs)=true) (fM:∀(st:ab) (objs:_),st.o=os→h9.all (jZ st objs)=true) (vY:iu.isEmpty=false) (aY:h9.isEmpty=false)
 (qt:∀x,Q x→∀cw,run ak fq (fj x::iu) (cw::os)=some (.bool (acc x),cw::os))
 (tw:∀x,Q x→∀(i:Nat) (hi:i<3),∀cw,run ak fn (fj x::.int .i64 i::h9) (cw::os)=some (fj ((bD (succ x))[i]'(by rw[kj];exact hi)),cw::os))
 (vZ:(ak.H fq).uniq=[]) (pK:(ak.H fn).uniq=[]):
 run ak 52 [fj s,.int .i64 most,.fn fq iu,.fn fn h9] os=some (if(eX succ most s).length≤most then .tup [(er succ acc (eX succ most s)).enc,.slc false 2 ((eX succ most s).map fj),.bool true]else .tup [.agg [.slc false 1 [],.slc false 1 []],.slc false 2 [],.bool false],os):=by
 have im:=fun x l=>xT (P:=Tryz.prog) (kt:=88) (enc:=fj) K8 x l 0
 have nH:=fun x l (h:x∉l)=>xU (P:=Tryz.prog) (kt:=88) (enc:=fj) K8 (x:=x) l 0 h
 simp only[Nat.zero_add,fj,aQ]at im nH qt tw
 generalize cn:(some ((if(eX succ most s).length≤most then V.tup [(er succ acc (eX succ most s)).enc,.slc false 2 ((eX succ most s).map fj),.bool true]else V.tup [.agg [.slc false 1 [],.slc false 1 []],.slc false 2 [],.bool false]),os):Option (V×List (Nat→Option ax)))=cO
 have cG:∀objs,(os.length != os.length||aG 3 objs)=aG 3 objs:=by intro objs;simp
 simp only[fj,aQ]
 rw[run_eq ak 52 _ _ Tryz.func52 (by decide+kernel) rfl (show 4≤_ by decide)]
 dsimp only[Tryz.f52]
 simp only[go_sem,hG,fM]
 generalize cK:eX succ most s=L at cn
 refine cz (fun p:Nat×List (Nat×Nat)=>p.1≤p.2.length∧p.2.length≤most∧(∀x∈p.2,Q x)∧eF succ (most+1-p.1) p.2 p.1=L) (fun p=>{t:=ae (ae (ae (ae (ae (ae (ae (ae bH 14 (.int .i64 p.1)) 13 (.ptr os.length 13 0)) 12 (.mp os.length 22)) 11 (.slc true 2 (p.2.map fj))) 8 (.ptr os.length 8 0)) 3 (.fn fn h9)) 2 (.fn fq iu)) 1 (.int .i64 most),b:=ae (ae (ae (ae bk 22 (some (ax.map (hg fj 0 p.2)))) 13 (some (ax.box [.slc true 1 ((L.take p.1).map (kK acc)),.slc true 1 ((L.take p.1).map (kL succ L))]))) 8 (some (ax.box [.slc true 1 [],.slc true 1 []]))) 4 (some (ax.box [.int .i64 s.1,.int .i64 s.2])),o:=os,r:=#[ResultVar.cell 8 31,ResultVar.tmp 9,ResultVar.tmp 10],f:=52,n:=89}) (fun _=>cO) (fun p=>most+1-p.1) ?_ (0,[s]) ⟨Nat.zero_le _,yt,by simpa using al,cK⟩
 rintro⟨i,l⟩ ⟨hi,arQ,lC,ad⟩ ag
 dsimp only at hi arQ lC ad⊢
 by_cases h:i<l.length
 rotate_left
 ·have aq:¬(i:Int)<l.length:=by omega
  rw[ki h]at ad
  subst ad
  rw[if_pos arQ]at cn
  subst cn
  rw[List.take_of_length_le (by omega)]
  rw[xV,xW]
  simp only[go_sem,aq,er,fj,hG,fM]
 have aq:(i:Int)<l.length:=by omega
 have b1:=cr (n:=i) (by omega)
 have jR:=lC _ (List.getElem_mem h)
 have fH:∀v:V,(l.map fj).getD i v=fj l[i]:=fun v=>getD_map h v
 have aR:most+1-i=(most+1-(i+1))+1:=by omega
 rw[aR,lb h]at ad
 have qu:L.take (i+1)=L.take i++[l[i]]:=by
  have arM:l <+: L:=by rw[←ad];exact(fG _ _).trans (iS _ _ _ _)
  rw[s8 arM h]
  congr 1
  obtain⟨m,rfl⟩:=arM
  rw[List.take_append_of_le_length (by omega)]
 have fe:(L.take i).length=i:=by
  have arM:l <+: L:=by rw[←ad];exact(fG _ _).trans (iS _ _ _ _)
  have:=arM.length_le
  rw[List.length_take];omega
 have nJ:b0 l (succ l[i]) <+: L:=by rw[←ad];exact iS _ _ _ _
 have lD:=e5 _ jR
 have a1:=fun(hlen:(b0 l (succ l[i])).length≤most)=>ag (i+1,b0 l (succ l[i])) ⟨Nat.le_trans h (fG _ _).length_le,hlen,fun x U=>by
  rcases la.1 U with U | rfl | rfl | rfl
  ·exact lC x U
  ·exact lD.1
  ·exact lD.2.1
  ·exact lD.2.2,ad⟩ (by show most+1-(i+1)<most+1-i;omega)
 dsimp only at a1
 clear ag
 rw[qu,List.map_append,List.map_append,List.map_cons,List.map_nil,List.map_cons,List.map_nil]at a1
 have mh:kK acc l[i]=.bool (acc l[i]):=rfl
 have mi:kL succ L l[i]=.slc false 1 [aQ (cm L (succ l[i]).1),aQ (cm L (succ l[i]).2.1),aQ (cm L (succ l[i]).2.2)]:=rfl
 rw[mh,mi]at a1
 clear mh mi
 have nS:=qt l[i] jR
 have vX:=tw l[i] jR
 generalize l[i]=x at*
 simp only[fj,aQ]at fH
 generalize succ x=aS at*
 simp only[go_sem,aq,hG,fM]
 refine cz (fun j:Nat=>j≤3∧(((bD aS).take j).foldl ins l).length≤most) (fun j=>{t:=ae (ae (ae (ae (ae (ae (ae (ae (ae (ae bH 33 (.int .i64 j)) 15 (.slc true 1 (((bD aS).take j).map (hh L)))) 14 (.int .i64 i)) 13 (.ptr os.length 13 0)) 12 (.mp os.length 22)) 11 (.slc true 2 ((((bD aS).take j).foldl ins l).map fj))) 8 (.ptr os.length 8 0)) 3 (.fn fn h9)) 2 (.fn fq iu)) 1 (.int .i64 most),b:=ae (ae (ae (ae bk 22 (some (ax.map (hg fj 0 (((bD aS).take j).foldl ins l))))) 13 (some (ax.box [.slc true 1 ((L.take i).map (kK acc)),.slc true 1 ((L.take i).map (kL succ L))]))) 8 (some (ax.box [.slc true 1 [],.slc true 1 []]))) 4 (some (ax.box [.int .i64 s.1,.int .i64 s.2])),o:=os,r:=#[ResultVar.cell 8 31,ResultVar.tmp 9,ResultVar.tmp 10],f:=52,n:=89}) (fun _=>cO) (fun j=>3-j) ?_ 0 ⟨by omega,arQ⟩
 rintro j ⟨au,tz⟩ lA
 by_cases aZ:j<3
 rotate_left
 ·obtain rfl:j=3:=by omega
  have cj:((bD aS).take 3).foldl ins l=b0 l aS:=rfl
  have da:((bD aS).take 3).map (hh L)=[aQ (cm L aS.1),aQ (cm L aS.2.1),aQ (cm L aS.2.2)]:=rfl
  rw[cj]at tz⊢
  rw[da]
  have cp:=a1 tz
  have gV:(i:Int)<(b0 l aS).length:=by have:=(fG l aS).length_le;omega
  have lE:∀v:V,((b0 l aS).map fj).getD i v=fj x:=by
   intro v
   obtain⟨m,hm⟩:=fG l aS
   rw[←hm,List.map_append,List.getD_eq_getElem?_getD,List.getElem?_append_left (by rw[List.length_map];exact h),←List.getD_eq_getElem?_getD]
   exact fH v
  simp only[fj,aQ]at lE
  have aW:¬((3:Nat):Int)<3:=by omega
  have aT:(i+1)*1≤140737488355328:=by omega
  have a2:(i+1)*24≤140737488355328:=by omega
  simp only[go_sem,aW]
  rw[arR]
  rotate_left
  ·kernel_rfl
  simp only[go_sem,still,gV,lE,nS,vY,vZ,fe,aT,a2,b1,eq_self,hG,fM]
  exact cp
 have aF:(j:Int)<3:=by omega
 have fX:=cr (n:=j) (by omega)
 have pL:=vX j aZ
 have dc:((bD aS).take (j+1)).foldl ins l <+: L:=by
  refine List.IsPrefix.trans ?_ nJ
  rw[←AF]
  have e:(bD aS).foldl ins l=((bD aS).drop (j+1)).foldl ins (((bD aS).take (j+1)).foldl ins l):=by
   rw[←List.foldl_append,List.take_append_drop]
  rw[e]
  exact lg _ _
 have jm:j<(bD aS).length:=by rw[kj];exact aZ
 have cp:=fun hlen=>lA (j+1) ⟨by omega,hlen⟩ (by omega)
 rw[pE _ _ jm]at dc cp
 rw[nz jm,List.map_append,List.map_cons,List.map_nil]at cp
 have jJ:i<(((bD aS).take j).foldl ins l).length:=Nat.lt_of_lt_of_le h (lg _ _).length_le
 have gV:(i:Int)<(((bD aS).take j).foldl ins l).length:=by omega
 have lE:∀v:V,((((bD aS).take j).foldl ins l).map fj).getD i v=fj x:=by
  intro v
  obtain⟨m,hm⟩:=lg ((bD aS).take j) l
  rw[←hm,List.map_append,List.getD_eq_getElem?_getD,List.getElem?_append_left (by rw[List.length_map];exact h),←List.getD_eq_getElem?_getD]
  exact fH v
 simp only[fj,aQ]at lE
 have qv:hh L (bD aS)[j]=aQ (cm L (bD aS)[j]):=rfl
 rw[qv]at cp
 have kq:cm L (bD aS)[j]=cm (ins (((bD aS).take j).foldl ins l) (bD aS)[j]) (bD aS)[j]:=AG dc (k9 _ _)
 generalize ((bD aS).take j).foldl ins l=m at*
 generalize (bD aS)[j]=y at*
 have f1:=im y m
 change _=some (if y∈m then some (V.int .i64 (cm m y:Nat))else none)at f1
 have fo:(((bD aS).take j).map (hh L)).length=j:=by rw[List.length_map,List.length_take,kj];omega
 have aT:(j+1)*8≤140737488355328:=by omega
 generalize ((bD aS).take j).map (hh L)=row at*
 by_cases eT:y∈m
 ·rw[if_pos eT]at f1
  rw[ins,if_pos eT]at cp kq
  rw[kq]at cp
  simp only[go_sem,aF,gV,lE,pL,aY,pK,f1,fo,aT,fX,hG,fM]
  exact cp tz
 ·rw[if_neg eT]at f1
  have f2:=nH y m eT
  rw[ins,if_neg eT]at cp kq dc
  rw[Ja eT]at kq
  rw[kq]at cp
  have a3:(m.length+1)*16≤140737488355328:=by omega
  have es:=Jb fj m y
  simp only[fj,aQ]at es
  by_cases mC:m.length+1>most
  ·have tA:((m.length+1:Nat):Int)>most:=by omega
   have lB:¬L.length≤most:=by
    have:=dc.length_le
    rw[List.length_append]at this
    simp only[List.length_cons,List.length_nil]at this
    omega
   rw[if_neg lB]at cn
   subst cn
   simp only[go_sem,aF,gV,lE,pL,aY,pK,f1,f2,fo,aT,a3,fX,tA,hG,fM]
  ·have tA:¬((m.length+1:Nat):Int)>most:=by omega
   have hlen:(m++[y]).length≤most:=by
    rw[List.length_append]
    simp only[List.length_cons,List.length_nil]
    omega
   have yu:=cp hlen
   rw[←es]at yu
   simp only[go_sem,aF,gV,lE,pL,aY,pK,f1,f2,fo,aT,a3,fX,tA,hG,fM]
   exact yu
end Go.aB
namespace Go.aB
open Go Go.Proofs
set_option maxRecDepth 10000
set_option maxHeartbeats 4000000
def dZ (p:Nat×Nat):V:=.agg [aQ p.1,.int .u64 p.2]
theorem K9 (a b:Nat×Nat):ea Tryz.prog 123 (dZ a) (dZ b)=some (decide (a=b)):=by
 show ea Tryz.prog 123 (.agg [.int .i64 (a.1:Int),.int .u64 (a.2:Int)]) (.agg [.int .i64 (b.1:Int),.int .u64 (b.2:Int)])=_
 rw[KI]
 obtain⟨aT,a2⟩:=a
 obtain⟨bU,cv⟩:=b
 simp only[kh,Prod.mk.injEq,Bool.and_true,Option.some.injEq]
 rw[Bool.eq_iff_iff]
 simp
theorem La (succ:Nat×Nat→(Nat×Nat)×(Nat×Nat)×(Nat×Nat)) (acc:Nat×Nat→Bool) (most:Nat) (s:Nat×Nat) (Q:Nat×Nat→Prop) (yt:1≤most) (hm:most≤1048576) (al:Q s) (e5:∀x,Q x→Q (succ x).1∧Q (succ x).2.1∧Q (succ x).2.2)
 (fq fn:Nat) (iu h9:List V) (os:List (Nat→Option ax)) (aj:os.length≠0) (hG:∀(st:ab) (objs:_),st.o=os→iu.all (jZ st objs)=true) (fM:∀(st:ab) (objs:_),st.o=os→h9.all (jZ st objs)=true) (vY:iu.isEmpty=false) (aY:h9.isEmpty=false)
 (qt:∀x,Q x→∀cw,run ak fq (dZ x::iu) (cw::os)=some (.bool (acc x),cw::os))
 (tw:∀x,Q x→∀(i:Nat) (hi:i<3),∀cw,run ak fn (dZ x::.int .i64 i::h9) (cw::os)=some (dZ ((bD (succ x))[i]'(by rw[kj];exact hi)),cw::os))
 (vZ:(ak.H fq).uniq=[]) (pK:(ak.H fn).uniq=[]):
 run ak 104 [dZ s,.int .i64 most,.fn fq iu,.fn fn h9] os=some (if(eX succ most s).length≤most then .tup [(er succ acc (eX succ most s)).enc,.slc false 2 ((eX succ most s).map dZ),.bool true]else .tup [.agg [.slc false 1 [],.slc false 1 []],.slc false 2 [],.bool false],os):=by
 have im:=fun x l=>xT (P:=Tryz.prog) (kt:=123) (enc:=dZ) K9 x l 0
 have nH:=fun x l (h:x∉l)=>xU (P:=Tryz.prog) (kt:=123) (enc:=dZ) K9 (x:=x) l 0 h
 simp only[Nat.zero_add,dZ,aQ]at im nH qt tw
 generalize cn:(some ((if(eX succ most s).length≤most then V.tup [(er succ acc (eX succ most s)).enc,.slc false 2 ((eX succ most s).map dZ),.bool true]else V.tup [.agg [.slc false 1 [],.slc false 1 []],.slc false 2 [],.bool false]),os):Option (V×List (Nat→Option ax)))=cO
 have cG:∀objs,(os.length != os.length||aG 3 objs)=aG 3 objs:=by intro objs;simp
 simp only[dZ,aQ]
 rw[run_eq ak 104 _ _ Tryz.func104 (by decide+kernel) rfl (show 4≤_ by decide)]
 dsimp only[Tryz.f104]
 simp only[go_sem,hG,fM]
 generalize cK:eX succ most s=L at cn
 refine cz (fun p:Nat×List (Nat×Nat)=>p.1≤p.2.length∧p.2.length≤most∧(∀x∈p.2,Q x)∧eF succ (most+1-p.1) p.2 p.1=L) (fun p=>{t:=ae (ae (ae (ae (ae (ae (ae (ae bH 14 (.int .i64 p.1)) 13 (.ptr os.length 13 0)) 12 (.mp os.length 22)) 11 (.slc true 2 (p.2.map dZ))) 8 (.ptr os.length 8 0)) 3 (.fn fn h9)) 2 (.fn fq iu)) 1 (.int .i64 most),b:=ae (ae (ae (ae bk 22 (some (ax.map (hg dZ 0 p.2)))) 13 (some (ax.box [.slc true 1 ((L.take p.1).map (kK acc)),.slc true 1 ((L.take p.1).map (kL succ L))]))) 8 (some (ax.box [.slc true 1 [],.slc true 1 []]))) 4 (some (ax.box [.int .i64 s.1,.int .u64 s.2])),o:=os,r:=#[ResultVar.cell 8 31,ResultVar.tmp 9,ResultVar.tmp 10],f:=104,n:=89}) (fun _=>cO) (fun p=>most+1-p.1) ?_ (0,[s]) ⟨Nat.zero_le _,yt,by simpa using al,cK⟩
 rintro⟨i,l⟩ ⟨hi,arQ,lC,ad⟩ ag
 dsimp only at hi arQ lC ad⊢
 by_cases h:i<l.length
 rotate_left
 ·have aq:¬(i:Int)<l.length:=by omega
  rw[ki h]at ad
  subst ad
  rw[if_pos arQ]at cn
  subst cn
  rw[List.take_of_length_le (by omega)]
  rw[xV,xW]
  simp only[go_sem,aq,er,dZ,hG,fM]
 have aq:(i:Int)<l.length:=by omega
 have b1:=cr (n:=i) (by omega)
 have jR:=lC _ (List.getElem_mem h)
 have fH:∀v:V,(l.map dZ).getD i v=dZ l[i]:=fun v=>getD_map h v
 have aR:most+1-i=(most+1-(i+1))+1:=by omega
 rw[aR,lb h]at ad
 have qu:L.take (i+1)=L.take i++[l[i]]:=by
  have arM:l <+: L:=by rw[←ad];exact(fG _ _).trans (iS _ _ _ _)
  rw[s8 arM h]
  congr 1
  obtain⟨m,rfl⟩:=arM
  rw[List.take_append_of_le_length (by omega)]
 have fe:(L.take i).length=i:=by
  have arM:l <+: L:=by rw[←ad];exact(fG _ _).trans (iS _ _ _ _)
  have:=arM.length_le
  rw[List.length_take];omega
 have nJ:b0 l (succ l[i]) <+: L:=by rw[←ad];exact iS _ _ _ _
 have lD:=e5 _ jR
 have a1:=fun(hlen:(b0 l (succ l[i])).length≤most)=>ag (i+1,b0 l (succ l[i])) ⟨Nat.le_trans h (fG _ _).length_le,hlen,fun x U=>by
  rcases la.1 U with U | rfl | rfl | rfl
  ·exact lC x U
  ·exact lD.1
  ·exact lD.2.1
  ·exact lD.2.2,ad⟩ (by show most+1-(i+1)<most+1-i;omega)
 dsimp only at a1
 clear ag
 rw[qu,List.map_append,List.map_append,List.map_cons,List.map_nil,List.map_cons,List.map_nil]at a1
 have mh:kK acc l[i]=.bool (acc l[i]):=rfl
 have mi:kL succ L l[i]=.slc false 1 [aQ (cm L (succ l[i]).1),aQ (cm L (succ l[i]).2.1),aQ (cm L (succ l[i]).2.2)]:=rfl
 rw[mh,mi]at a1
 clear mh mi
 have nS:=qt l[i] jR
 have vX:=tw l[i] jR
 generalize l[i]=x at*
 simp only[dZ,aQ]at fH
 generalize succ x=aS at*
 simp only[go_sem,aq,hG,fM]
 refine cz (fun j:Nat=>j≤3∧(((bD aS).take j).foldl ins l).length≤most) (fun j=>{t:=ae (ae (ae (ae (ae (ae (ae (ae (ae (ae bH 33 (.int .i64 j)) 15 (.slc true 1 (((bD aS).take j).map (hh L)))) 14 (.int .i64 i)) 13 (.ptr os.length 13 0)) 12 (.mp os.length 22)) 11 (.slc true 2 ((((bD aS).take j).foldl ins l).map dZ))) 8 (.ptr os.length 8 0)) 3 (.fn fn h9)) 2 (.fn fq iu)) 1 (.int .i64 most),b:=ae (ae (ae (ae bk 22 (some (ax.map (hg dZ 0 (((bD aS).take j).foldl ins l))))) 13 (some (ax.box [.slc true 1 ((L.take i).map (kK acc)),.slc true 1 ((L.take i).map (kL succ L))]))) 8 (some (ax.box [.slc true 1 [],.slc true 1 []]))) 4 (some (ax.box [.int .i64 s.1,.int .u64 s.2])),o:=os,r:=#[ResultVar.cell 8 31,ResultVar.tmp 9,ResultVar.tmp 10],f:=104,n:=89}) (fun _=>cO) (fun j=>3-j) ?_ 0 ⟨by omega,arQ⟩
 rintro j ⟨au,tz⟩ lA
 by_cases aZ:j<3
 rotate_left
 ·obtain rfl:j=3:=by omega
  have cj:((bD aS).take 3).foldl ins l=b0 l aS:=rfl
  have da:((bD aS).take 3).map (hh L)=[aQ (cm L aS.1),aQ (cm L aS.2.1),aQ (cm L aS.2.2)]:=rfl
  rw[cj]at tz⊢
  rw[da]
  have cp:=a1 tz
  have gV:(i:Int)<(b0 l aS).length:=by have:=(fG l aS).length_le;omega
  have lE:∀v:V,((b0 l aS).map dZ).getD i v=dZ x:=by
   intro v
   obtain⟨m,hm⟩:=fG l aS
   rw[←hm,List.map_append,List.getD_eq_getElem?_getD,List.getElem?_append_left (by rw[List.length_map];exact h),←List.getD_eq_getElem?_getD]
   exact fH v
  simp only[dZ,aQ]at lE
  have aW:¬((3:Nat):Int)<3:=by omega
  have aT:(i+1)*1≤140737488355328:=by omega
  have a2:(i+1)*24≤140737488355328:=by omega
  simp only[go_sem,aW]
  rw[arR]
  rotate_left
  ·kernel_rfl
  simp only[go_sem,still,gV,lE,nS,vY,vZ,fe,aT,a2,b1,eq_self,hG,fM]
  exact cp
 have aF:(j:Int)<3:=by omega
 have fX:=cr (n:=j) (by omega)
 have pL:=vX j aZ
 have dc:((bD aS).take (j+1)).foldl ins l <+: L:=by
  refine List.IsPrefix.trans ?_ nJ
  rw[←AF]
  have e:(bD aS).foldl ins l=((bD aS).drop (j+1)).foldl ins (((bD aS).take (j+1)).foldl ins l):=by
   rw[←List.foldl_append,List.take_append_drop]
  rw[e]
  exact lg _ _
 have jm:j<(bD aS).length:=by rw[kj];exact aZ
 have cp:=fun hlen=>lA (j+1) ⟨by omega,hlen⟩ (by omega)
 rw[pE _ _ jm]at dc cp
 rw[nz jm,List.map_append,List.map_cons,List.map_nil]at cp
 have jJ:i<(((bD aS).take j).foldl ins l).length:=Nat.lt_of_lt_of_le h (lg _ _).length_le
 have gV:(i:Int)<(((bD aS).take j).foldl ins l).length:=by omega
 have lE:∀v:V,((((bD aS).take j).foldl ins l).map dZ).getD i v=dZ x:=by
  intro v
  obtain⟨m,hm⟩:=lg ((bD aS).take j) l
  rw[←hm,List.map_append,List.getD_eq_getElem?_getD,List.getElem?_append_left (by rw[List.length_map];exact h),←List.getD_eq_getElem?_getD]
  exact fH v
 simp only[dZ,aQ]at lE
 have qv:hh L (bD aS)[j]=aQ (cm L (bD aS)[j]):=rfl
 rw[qv]at cp
 have kq:cm L (bD aS)[j]=cm (ins (((bD aS).take j).foldl ins l) (bD aS)[j]) (bD aS)[j]:=AG dc (k9 _ _)
 generalize ((bD aS).take j).foldl ins l=m at*
 generalize (bD aS)[j]=y at*
 have f1:=im y m
 change _=some (if y∈m then some (V.int .i64 (cm m y:Nat))else none)at f1
 have fo:(((bD aS).take j).map (hh L)).length=j:=by rw[List.length_map,List.length_take,kj];omega
 have aT:(j+1)*8≤140737488355328:=by omega
 generalize ((bD aS).take j).map (hh L)=row at*
 by_cases eT:y∈m
 ·rw[if_pos eT]at f1
  rw[ins,if_pos eT]at cp kq
  rw[kq]at cp
  simp only[go_sem,aF,gV,lE,pL,aY,pK,f1,fo,aT,fX,hG,fM]
  exact cp tz
 ·rw[if_neg eT]at f1
  have f2:=nH y m eT
  rw[ins,if_neg eT]at cp kq dc
  rw[Ja eT]at kq
  rw[kq]at cp
  have a3:(m.length+1)*16≤140737488355328:=by omega
  have es:=Jb dZ m y
  simp only[dZ,aQ]at es
  by_cases mC:m.length+1>most
  ·have tA:((m.length+1:Nat):Int)>most:=by omega
   have lB:¬L.length≤most:=by
    have:=dc.length_le
    rw[List.length_append]at this
    simp only[List.length_cons,List.length_nil]at this
    omega
   rw[if_neg lB]at cn
   subst cn
   simp only[go_sem,aF,gV,lE,pL,aY,pK,f1,f2,fo,aT,a3,fX,tA,hG,fM]
  ·have tA:¬((m.length+1:Nat):Int)>most:=by omega
   have hlen:(m++[y]).length≤most:=by
    rw[List.length_append]
    simp only[List.length_cons,List.length_nil]
    omega
   have yu:=cp hlen
   rw[←es]at yu
   simp only[go_sem,aF,gV,lE,pL,aY,pK,f1,f2,fo,aT,a3,fX,tA,hG,fM]
   exact yu
end Go.aB
