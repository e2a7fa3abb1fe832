/- The law: the failing inputs of a program are exactly the words with which a check fails. Typed cells as the laws' data. -/
import Derived.Test.YtlecddobnippmaaGreatProg
import Derived.Test.YtlecddobnippmaaGreatEvZA
import Derived.Test.YtlecddobnippmaaGreatEvZB
import Derived.Test.YtlecddobnippmaaGreatEvT
import Derived.Test.YtlecddobnippmaaGreatEvP
set_option linter.unusedVariables false
set_option linter.unusedSimpArgs false
namespace Go.aB
open Go Go.Proofs
set_option maxRecDepth 10000
set_option maxHeartbeats 4000000
theorem aqw (d:ao) (arL:bG d):run ak 9 [.agg [.slc false 1 (d.accept.map B),.slc false 1 (d.next.map bu)],.agg [.slc false 1 (d.accept.map B),.slc false 1 (d.next.map bu)]] []=some (.bool true,[]):=by
 have aw:=arL.ok
 have hle:=arL.le
 have h:=L3 d.cU (by show d.accept.length≤_;omega) (by show(d.next.map _).length≤_;rw[List.length_map,aw.1];omega) (by
  intro r aI
  obtain⟨t,_,rfl⟩:=List.mem_map.1 aI
  show 3≤1048576;decide)
 rw[ao.jO]at h
 exact h
theorem L4:run ak 9 [.agg [.slc false 1 [],.slc false 1 []],.agg [.slc false 1 [],.slc false 1 []]] []=some (.bool true,[]):=
 L3 ⟨[],[]⟩ (by decide) (by decide) (fun r aI=>by cases aI)
theorem aqx (ls:List bQ) (s:ByteArray):∃t k b,qH ls s=.tup [.str t,.int .i64 k,.bool b]:=by
 unfold qH
 split
 ·exact⟨_,_,_,rfl⟩
 ·exact⟨_,_,_,rfl⟩
theorem aqy (l:List Int) (ok:l.length≤9223372036854775807∧sW (l.map (V.int .u8))):run ak 3 [.slc false 1 (l.map iZ)] []=some (.bool true,[]):=by
 have c5:=r4 l ok.1
 generalize cn:some (V.bool true,([]:List (Nat→Option ax)))=cO
 rw[run_eq ak 3 _ _ Tryz.func3 (by decide+kernel) rfl (show 1≤_ by decide)]
 dsimp only[Tryz.f3]
 by_cases ad:(l.length:Int)>1048576
 ·rw[decide_eq_true ad]at c5
  simp only[go_sem,c5]
  exact cn
 rw[decide_eq_false ad]at c5
 obtain⟨ls,⟨dK,kc⟩,bt⟩:=r5 l (by omega)
 obtain⟨ms,s,⟨gl,iy⟩,n7,bq⟩:=aqm l (by omega)
 obtain⟨ws,e2,j2,qw⟩:=aqq 3 (by decide)
 have yI:run ak 12 [.int .i64 3] []=_:=qw
 have fq:=LS ls (by omega) kc
 have nM:=r7 ls (by omega) kc
 have ks:=r8 ls (by omega) kc
 have rR:=Bm ms (by omega) iy s (by omega)
 have rS:=ap4 ms (by omega) iy s (by omega)
 have dF:=Fc ms (by omega) iy
 have hH:=Ff ms (by omega) iy
 obtain⟨rt,rk,Fo,kp⟩:=aqx ms s
 rw[kp]at rR rS
 cases arM:js ls with
 | false=>
   rw[tN,arM,if_neg (by simp)]at fq nM
   rw[Bo,arM,if_neg (by simp)]at ks
   unfold bz at fq nM
   have tP:=L4
   simp only[go_sem,c5,bt,fq,nM,ks,tP,yI,bne_self_eq_false,beq_self_eq_true,List.length_map]
   unfold iter
   by_cases sM:(0:Int)<ws.length
   ·simp only[go_sem,sM,bq,rR,rS,List.length_map]
    rw[arO]
    rotate_left
    ·kernel_rfl
    simp only[go_sem,dF,hH,bne_self_eq_false,beq_self_eq_true]
    exact cn
   ·simp only[go_sem,sM,bq,rR,rS,List.length_map]
    rw[arO]
    rotate_left
    ·kernel_rfl
    simp only[go_sem,dF,hH,bne_self_eq_false,beq_self_eq_true]
    exact cn
 | true=>
 rw[tN,arM,if_pos rfl]at fq nM
 rw[Bo,arM,if_pos rfl]at ks
 cases aJ:jd ls ls.length nE with
 | none=>
   rw[aJ]at fq nM ks
   dsimp only at ks
   unfold bz at fq nM
   have tP:=L4
   simp only[go_sem,c5,bt,fq,nM,ks,tP,yI,bne_self_eq_false,beq_self_eq_true,List.length_map]
   unfold iter
   by_cases sM:(0:Int)<ws.length
   ·simp only[go_sem,sM,bq,rR,rS,List.length_map]
    rw[arO]
    rotate_left
    ·kernel_rfl
    simp only[go_sem,dF,hH,bne_self_eq_false,beq_self_eq_true]
    exact cn
   ·simp only[go_sem,sM,bq,rR,rS,List.length_map]
    rw[arO]
    rotate_left
    ·kernel_rfl
    simp only[go_sem,dF,hH,bne_self_eq_false,beq_self_eq_true]
    exact cn
 | some d=>
 rw[aJ]at fq nM ks
 dsimp only at ks
 have arL:bG d:=LU _ vA aJ
 have tP:=aqw d arL
 simp only[bz,ao.enc]at fq nM
 cases al:pH d with
 | none=>
   rw[al]at ks
   dsimp only at ks
   simp only[go_sem,c5,bt,fq,nM,ks,tP,yI,bne_self_eq_false,beq_self_eq_true,List.length_map,Bool.not_true,Bool.not_false]
   refine cz (fun k:Nat=>k≤ws.length) (fun k=>{t:=ae (ae (ae (ae (ae (ae (ae bH 12 (.int .i64 (k:Int))) 11 (.slc false 1 (ws.map V.str))) 8 (.bool true)) 5 (.bool true)) 4 (.ptr 0 4 0)) 3 (.ptr 0 3 0)) 0 (.slc false 1 (l.map iZ)),b:=ae (ae (ae bk 6 (some (ax.box [.slc false 1 (d.accept.map B),.slc false 1 (d.next.map bu)]))) 4 (some (ax.box [.slc false 1 (d.accept.map B),.slc false 1 (d.next.map bu)]))) 3 (some (ax.box [.slc true 8 (ls.map bQ.enc)])),o:=[],r:=#[ResultVar.tmp 2],f:=3,n:=154}) (fun _=>cO) (fun k=>ws.length-k) ?_ 0 (Nat.zero_le _)
   intro k ay ag
   by_cases bj:k<ws.length
   rotate_left
   ·have aq:¬(k:Int)<ws.length:=by omega
    simp only[go_sem,aq,bq,rR,rS,List.length_map]
    rw[arO]
    rotate_left
    ·kernel_rfl
    simp only[go_sem,dF,hH,bne_self_eq_false,beq_self_eq_true]
    exact cn
   have aq:(k:Int)<ws.length:=by omega
   have cf:(0:Int)≤k:=by omega
   have hF:=cr (n:=k) (by omega)
   have a1:=ag (k+1) bj (by omega)
   obtain⟨ct,aL⟩:=j2 _ (List.getElem_mem bj)
   have av:∀v:V,(ws.map V.str).getD k v=.str ws[k]:=yf bj
   generalize ws[k]=w at ct aL av
   have rT:isWord w=true:=Ew aL (by omega)
   have mo:=Bm ls (by omega) kc w (by omega)
   rw[qH,if_pos ⟨arM,rT⟩]at mo
   have cB:=Bw d arL w (by omega)
   rw[rT,Bool.true_and,Bp arM aJ aL ct]at cB
   simp only[ao.enc]at cB
   have tc:decide ((fy ls w 0).2≥0)=false:=by rw[←Bp arM aJ aL ct];exact(Kj arL).2 al w
   have L5:=of_decide_eq_false tc
   generalize (fy ls w 0).1=cd at mo
   generalize (fy ls w 0).2=at_ at mo cB tc L5
   simp only[go_sem,aq,cf,av,toNat_cast,List.length_map]
   rw[arO]
   rotate_left
   ·kernel_rfl
   simp only[go_sem,aq,cf,av,mo,toNat_cast,List.length_map]
   rw[arO]
   rotate_left
   ·kernel_rfl
   simp only[go_sem,aq,cf,av,cB,L5,toNat_cast,List.length_map,Bool.not_true,bne_self_eq_false,hF]
   exact a1
 | some cT=>
 rw[al]at ks
 dsimp only at ks
 obtain⟨qt,NN⟩:=(Kj arL).1 cT al
 have hle:=arL.le
 have oP:=Bw d arL cT (by omega)
 rw[qt,Bool.and_true]at oP
 simp only[ao.enc]at oP
 have cE:=rO cT (by omega)
 cases L6:isWord cT with
 | false=>
   rw[L6]at oP cE
   simp only[go_sem,c5,bt,fq,nM,ks,tP,yI,oP,cE,bne_self_eq_false,beq_self_eq_true,List.length_map,Bool.not_true,Bool.not_false]
   refine cz (fun k:Nat=>k≤ws.length) (fun k=>{t:=ae (ae (ae (ae (ae (ae (ae bH 12 (.int .i64 (k:Int))) 11 (.slc false 1 (ws.map V.str))) 8 (.bool false)) 5 (.bool true)) 4 (.ptr 0 4 0)) 3 (.ptr 0 3 0)) 0 (.slc false 1 (l.map iZ)),b:=ae (ae (ae bk 6 (some (ax.box [.slc false 1 (d.accept.map B),.slc false 1 (d.next.map bu)]))) 4 (some (ax.box [.slc false 1 (d.accept.map B),.slc false 1 (d.next.map bu)]))) 3 (some (ax.box [.slc true 8 (ls.map bQ.enc)])),o:=[],r:=#[ResultVar.tmp 2],f:=3,n:=154}) (fun _=>cO) (fun k=>ws.length-k) ?_ 0 (Nat.zero_le _)
   intro k ay ag
   by_cases bj:k<ws.length
   rotate_left
   ·have aq:¬(k:Int)<ws.length:=by omega
    simp only[go_sem,aq,bq,rR,rS,List.length_map]
    rw[arO]
    rotate_left
    ·kernel_rfl
    simp only[go_sem,dF,hH,bne_self_eq_false,beq_self_eq_true]
    exact cn
   have aq:(k:Int)<ws.length:=by omega
   have cf:(0:Int)≤k:=by omega
   have hF:=cr (n:=k) (by omega)
   have a1:=ag (k+1) bj (by omega)
   obtain⟨ct,aL⟩:=j2 _ (List.getElem_mem bj)
   have av:∀v:V,(ws.map V.str).getD k v=.str ws[k]:=yf bj
   generalize ws[k]=w at ct aL av
   have rT:isWord w=true:=Ew aL (by omega)
   have mo:=Bm ls (by omega) kc w (by omega)
   rw[qH,if_pos ⟨arM,rT⟩]at mo
   have cB:=Bw d arL w (by omega)
   rw[rT,Bool.true_and,Bp arM aJ aL ct]at cB
   simp only[ao.enc]at cB
   generalize (fy ls w 0).1=cd at mo
   generalize (fy ls w 0).2=at_ at mo cB
   simp only[go_sem,aq,cf,av,toNat_cast,List.length_map]
   rw[arO]
   rotate_left
   ·kernel_rfl
   simp only[go_sem,aq,cf,av,mo,toNat_cast,List.length_map]
   rw[arO]
   rotate_left
   ·kernel_rfl
   simp only[go_sem,aq,cf,av,cB,toNat_cast,List.length_map,Bool.not_true,bne_self_eq_false,hF]
   exact a1
 | true=>
   rw[L6]at oP cE
   simp only[go_sem,c5,bt,fq,nM,ks,tP,yI,oP,cE,bne_self_eq_false,beq_self_eq_true,List.length_map,Bool.not_true,Bool.not_false]
   refine cz (fun k:Nat=>k≤ws.length) (fun k=>{t:=ae (ae (ae (ae (ae (ae (ae bH 12 (.int .i64 (k:Int))) 11 (.slc false 1 (ws.map V.str))) 8 (.bool false)) 5 (.bool true)) 4 (.ptr 0 4 0)) 3 (.ptr 0 3 0)) 0 (.slc false 1 (l.map iZ)),b:=ae (ae (ae bk 6 (some (ax.box [.slc false 1 (d.accept.map B),.slc false 1 (d.next.map bu)]))) 4 (some (ax.box [.slc false 1 (d.accept.map B),.slc false 1 (d.next.map bu)]))) 3 (some (ax.box [.slc true 8 (ls.map bQ.enc)])),o:=[],r:=#[ResultVar.tmp 2],f:=3,n:=154}) (fun _=>cO) (fun k=>ws.length-k) ?_ 0 (Nat.zero_le _)
   intro k ay ag
   by_cases bj:k<ws.length
   rotate_left
   ·have aq:¬(k:Int)<ws.length:=by omega
    simp only[go_sem,aq,bq,rR,rS,List.length_map]
    rw[arO]
    rotate_left
    ·kernel_rfl
    simp only[go_sem,dF,hH,bne_self_eq_false,beq_self_eq_true]
    exact cn
   have aq:(k:Int)<ws.length:=by omega
   have cf:(0:Int)≤k:=by omega
   have hF:=cr (n:=k) (by omega)
   have a1:=ag (k+1) bj (by omega)
   obtain⟨ct,aL⟩:=j2 _ (List.getElem_mem bj)
   have av:∀v:V,(ws.map V.str).getD k v=.str ws[k]:=yf bj
   generalize ws[k]=w at ct aL av
   have rT:isWord w=true:=Ew aL (by omega)
   have mo:=Bm ls (by omega) kc w (by omega)
   rw[qH,if_pos ⟨arM,rT⟩]at mo
   have cB:=Bw d arL w (by omega)
   rw[rT,Bool.true_and,Bp arM aJ aL ct]at cB
   simp only[ao.enc]at cB
   generalize (fy ls w 0).1=cd at mo
   generalize (fy ls w 0).2=at_ at mo cB
   simp only[go_sem,aq,cf,av,toNat_cast,List.length_map]
   rw[arO]
   rotate_left
   ·kernel_rfl
   simp only[go_sem,aq,cf,av,mo,toNat_cast,List.length_map]
   rw[arO]
   rotate_left
   ·kernel_rfl
   simp only[go_sem,aq,cf,av,cB,toNat_cast,List.length_map,Bool.not_true,bne_self_eq_false,hF]
   exact a1
end Go.aB
namespace Go.aB.Op
open Go Go.Proofs Go.RowKit Go.aB
set_option maxRecDepth 10000
theorem aqz:Tryz.prog.underlying 5=some (.int .u8):=by kernel_rfl
theorem aqA:Tryz.prog.cellsOf 5=1:=by kernel_rfl
theorem aqB:Tryz.prog.underlying 22=some (.slice 5):=by kernel_rfl
theorem Ez:isAgg Tryz.prog 5=false:=by kernel_rfl
theorem aqC:∀(n:Nat) (vs:List V),me Tryz.prog n 22 vs→∃l:List Int,vs=[.slc false 1 (l.map (V.int .u8))]∧l.length≤9223372036854775807∧sW (l.map (V.int .u8)):=by
 intro n vs h
 cases n with
 | zero=>cases h
 | succ n=>
   obtain⟨l,J,aa,ar⟩:=asl aqB (f:=(V.int .u8)) (fun us hu=>X1 Ez aqz hu) h
   rw[aqA]at J
   exact⟨l,J,aa,ar⟩
theorem closed:Kk Tryz.prog [5,22]=true:=by kernel_rfl
end Go.aB.Op
