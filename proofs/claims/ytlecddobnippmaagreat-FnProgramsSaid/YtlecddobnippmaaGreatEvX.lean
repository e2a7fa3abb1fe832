/- Products: the program's; what fits. Products, the reference's. Complements, both. Words: strings of letters of at most thirty. Automata of words, both. Sets of states: the program's moves. Joins and repetitions: the program's. Sets of states: the reference's sorted lists. -/
import Derived.Test.YtlecddobnippmaaGreatEvW
import Derived.Test.YtlecddobnippmaaGreatEvQ
import Derived.Test.YtlecddobnippmaaGreatEvR
import Derived.Test.YtlecddobnippmaaGreatEvV
set_option linter.unusedVariables false
set_option linter.unusedSimpArgs false
namespace Go.aB
open Go Go.Proofs
set_option maxRecDepth 10000
set_option maxHeartbeats 4000000
theorem v7 (d:ao) (h:bG d):run ak 47 [d.enc] []=some (.bool true,[]):=by
 have J:=h.le
 have:=vR d.cU (by show d.accept.length≤_;omega) (by show(d.next.map _).length≤_;rw[List.length_map,h.ok.1];omega) Je
 rw[ao.jO,h.valid]at this
 exact this
theorem asc (d:ao) (aj:d.ok) (ai:d.accept.length≤1048576):run ak 90 [d.enc] []=some (.bool (decide (1≤d.accept.length)&&decide (d.accept.length≤40)),[]):=by
 have:=yl d.cU (by show d.accept.length≤_;omega) (by show(d.next.map _).length≤_;rw[List.length_map,aj.1];omega) Je
 rw[ao.jO,Jd aj]at this
 exact this
theorem EK (d:ao) (aj:d.ok) (J:1≤d.accept.length) (ai:d.accept.length≤1048576):run ak 55 [d.enc] []=some (bz (fw d),[]):=by
 have eR:=vW d aj ai 0 J
 have bH:((0:Nat):Int)=0:=rfl
 rw[bH]at eR
 unfold fw
 generalize cF d 0=q at eR⊢
 simp only[ao.enc,ao.dX]at eR
 rw[run_eq ak 55 _ _ Tryz.func55 (by decide+kernel) rfl (show 1≤_ by decide)]
 dsimp only[Tryz.f55]
 simp only[go_sem,eR]
 by_cases h:q.accept.length≤40
 ·have aZ:¬(q.accept.length:Int)>40:=by omega
  rw[if_pos h]
  simp only[go_sem,aZ,bz]
 ·have aZ:(q.accept.length:Int)>40:=by omega
  rw[if_neg h]
  simp only[go_sem,aZ,bz]
theorem EL (d:ao) (aj:d.ok) (J:1≤d.accept.length) (ai:d.accept.length≤1048576):run ak 95 [d.enc] []=some (bz (fw d),[]):=by
 have eR:=vT d aj ai J
 rw[vo aj J]at eR
 have aE:=xX aj J
 have wX:=Jc aj J
 have mj:=asc (cF d 0) aE.1 (by omega)
 rw[decide_eq_true aE.2,Bool.true_and]at mj
 unfold fw
 generalize cF d 0=q at eR mj⊢
 simp only[ao.enc,ao.dX]at eR mj
 rw[run_eq ak 95 _ _ Tryz.func95 (by decide+kernel) rfl (show 1≤_ by decide)]
 dsimp only[Tryz.f95]
 by_cases h:q.accept.length≤40
 ·rw[decide_eq_true h]at mj
  rw[if_pos h]
  simp only[go_sem,eR,mj,bz,Bool.not_true]
 ·rw[decide_eq_false h]at mj
  rw[if_neg h]
  simp only[go_sem,eR,mj,bz,Bool.not_false]
theorem aoT (a b:ao) (kind:Int) (x:Nat×Nat) (U:lh a b x) (aq aF aW:Nat) (os:List (Nat→Option ax)) (aj:os.length≠0) (J:bV aq 0 os=some (.box [.int .i64 kind])) (aa:bV aF 0 os=some (.box [.slc false 1 (a.accept.map B),.slc false 1 (a.next.map bu)])) (ar:bV aW 0 os=some (.box [.slc false 1 (b.accept.map B),.slc false 1 (b.next.map bu)])):
 run ak 53 [fj x,.ptr 0 aq 0,.ptr 0 aF 0,.ptr 0 aW 0] os=some (.bool (vu kind a b x),os):=by
 have dA:¬0=os.length:=fun e=>aj e.symm
 have cB:(x.1:Int)<a.accept.length:=by have:=U.1;omega
 have dJ:(x.2:Int)<b.accept.length:=by have:=U.2;omega
 have g1:∀v:V,(a.accept.map B).getD x.1 v=B (bB a x.1):=fun v=>kH U.1 v
 have g2:∀v:V,(b.accept.map B).getD x.2 v=B (bB b x.2):=fun v=>kH U.2 v
 unfold vu
 generalize bB a x.1=A at g1⊢
 generalize bB b x.2=C at g2⊢
 simp only[fj,aQ]
 rw[run_eq ak 53 _ _ Tryz.func53 (by decide+kernel) rfl (show 4≤_ by decide)]
 dsimp only[Tryz.f53]
 cases tB:(kind==6)
 ·have EM:¬kind=6:=by simpa using tB
  rw[if_neg EM]
  cases A<;>simp only[go_sem,dA,J,aa,ar,tB,cB,dJ,g1,g2,Bool.false_and,Bool.true_and,Bool.false_or,Bool.true_or]
 ·have EM:kind=6:=by simpa using tB
  rw[if_pos EM]
  cases A<;>simp only[go_sem,dA,J,aa,ar,tB,cB,dJ,g1,g2,Bool.false_and,Bool.true_and,Bool.false_or,Bool.true_or]
theorem aoU (a b:ao) (aO:a.ok) (ad:b.ok) (x:Nat×Nat) (U:lh a b x) (i:Nat) (hi:i<3) (aF aW:Nat) (os:List (Nat→Option ax)) (aj:os.length≠0) (aa:bV aF 0 os=some (.box [.slc false 1 (a.accept.map B),.slc false 1 (a.next.map bu)])) (ar:bV aW 0 os=some (.box [.slc false 1 (b.accept.map B),.slc false 1 (b.next.map bu)])):
 run ak 54 [fj x,.int .i64 i,.ptr 0 aF 0,.ptr 0 aW 0] os=some (fj ((bD (ik a b x))[i]'(by rw[kj];exact hi)),os):=by
 have dA:¬0=os.length:=fun e=>aj e.symm
 have cB:(x.1:Int)<a.next.length:=by have:=U.1;rw[aO.1];omega
 have dJ:(x.2:Int)<b.next.length:=by have:=U.2;rw[ad.1];omega
 have g1:∀v:V,(a.next.map bu).getD x.1 v=bu (a.aN x.1):=fun v=>hW (by rw[aO.1];exact U.1) v
 have g2:∀v:V,(b.next.map bu).getD x.2 v=bu (b.aN x.2):=fun v=>hW (by rw[ad.1];exact U.2) v
 unfold ik
 generalize a.aN x.1=A at g1⊢
 generalize b.aN x.2=C at g2⊢
 simp only[fj,aQ]
 rw[run_eq ak 54 _ _ Tryz.func54 (by decide+kernel) rfl (show 4≤_ by decide)]
 dsimp only[Tryz.f54]
 simp only[go_sem]
 rw[arO]
 rotate_left
 ·kernel_rfl
 match i,hi with
 | 0,_=>simp only[go_sem,dA,aa,ar,cB,dJ,g1,g2]<;>rfl
 | 1,_=>simp only[go_sem,dA,aa,ar,cB,dJ,g1,g2]<;>rfl
 | 2,_=>simp only[go_sem,dA,aa,ar,cB,dJ,g1,g2]<;>rfl
theorem aoV (aq aF:Nat) (b:Nat→Option ax):∀(st:ab) (objs:_),st.o=[b]→([.ptr 0 aq 0,.ptr 0 aF 0]:List V).all (jZ st objs)=true:=by
 intro st objs h;simp[jZ,ab.lv,h]
theorem rI (aq aF aW:Nat) (b:Nat→Option ax):∀(st:ab) (objs:_),st.o=[b]→([.ptr 0 aq 0,.ptr 0 aF 0,.ptr 0 aW 0]:List V).all (jZ st objs)=true:=by
 intro st objs h;simp[jZ,ab.lv,h]
theorem EN (a b:ao) (aO:bG a) (ad:bG b) (kind:Int) (ay:kind=6∨kind=7):run ak 25 [a.enc,b.enc,.int .i64 kind] []=some (bz (fw (gQ kind a b)),[]):=by
 have dF:=v7 a aO
 have hH:=v7 b ad
 have fZ:=rn (kind:=kind) aO ad
 have dH:=EK (gQ kind a b) fZ.1 fZ.2.1 (by omega)
 have ex:=fun(gW:Nat→Option ax) (bf:gW 5=some (.box [.int .i64 kind])) (ar:gW 3=some (.box [.slc false 1 (a.accept.map B),.slc false 1 (a.next.map bu)])) (aP:gW 4=some (.box [.slc false 1 (b.accept.map B),.slc false 1 (b.next.map bu)]))=>
  aoS (ik a b) (vu kind a b) 1600 (0,0) (lh a b) (by decide) (by decide) ⟨aO.pos,ad.pos⟩ (fun x U=>AJ aO.ok ad.ok U) 53 54 [.ptr 0 5 0,.ptr 0 3 0,.ptr 0 4 0] [.ptr 0 3 0,.ptr 0 4 0] [gW] (by simp) (rI 5 3 4 gW) (aoV 3 4 gW) rfl rfl
   (fun x U cw=>aoT a b kind x U 5 3 4 _ (by simp) (by rw[k7 (by simp)];exact bf) (by rw[k7 (by simp)];exact ar) (by rw[k7 (by simp)];exact aP))
   (fun x U i hi cw=>aoU a b aO.ok ad.ok x U i hi 3 4 _ (by simp) (by rw[k7 (by simp)];exact ar) (by rw[k7 (by simp)];exact aP)) (by kernel_rfl) (by kernel_rfl)
 have ar4:eX (ik a b) 1600 (0,0)=kM a b:=rfl
 have eD:er (ik a b) (vu kind a b) (kM a b)=gQ kind a b:=rfl
 rw[ar4]at ex
 rw[if_pos (xY aO ad),eD]at ex
 have yw:((1600:Nat):Int)=1600:=rfl
 rw[yw]at ex
 have yx:((0:Nat):Int)=0:=rfl
 simp only[fj,aQ,yx]at ex
 generalize gQ kind a b=d at dH ex⊢
 generalize aI:fw d=r at dH⊢
 simp only[ao.enc]at dF hH dH ex
 rw[run_eq ak 25 _ _ Tryz.func25 (by decide+kernel) rfl (show 3≤_ by decide)]
 dsimp only[Tryz.f25]
 have key:∀(tB:Int),(tB=6∨tB=7)→True:=fun _ _=>trivial
 rcases ay with rfl | rfl
 ·simp only[go_sem,dF,hH,bne,Bool.not_true]
  rw[ex _ rfl rfl rfl]
  cases r with
  | none=>simp only[go_sem,dH,bz]
  | some e=>simp only[go_sem,dH,bz]
 ·simp only[go_sem,dF,hH,bne,Bool.not_true]
  rw[ex _ rfl rfl rfl]
  cases r with
  | none=>simp only[go_sem,dH,bz]
  | some e=>simp only[go_sem,dH,bz]
end Go.aB
namespace Go.aB
open Go Go.Proofs
set_option maxRecDepth 10000
set_option maxHeartbeats 4000000
theorem Lb (M:List Nat) (m8:M.length≤1048576) (x:Nat):run ak 94 [.slc false 1 (M.map aQ),.int .i64 x] []=some (.int .i64 (fv (fun y:Int=>y==(x:Int)) (M.map fun n:Nat=>(n:Int)) 0),[]):=by
 have:=tu (M.map fun n:Nat=>(n:Int)) (by rw[List.length_map];exact m8) x
 rw[←vl]at this
 exact this
theorem EO (a b:ao) (aO:bG a) (ad:bG b) (kind:Int) (ay:kind=6∨kind=7):run ak 60 [a.enc,b.enc,.int .i64 kind] []=some (bz (fw (gQ kind a b)),[]):=by
 have arl:=aO.le
 have arn:=ad.le
 have aro:=ad.pos
 have dF:=asc a aO.ok (by omega)
 have hH:=asc b ad.ok (by omega)
 rw[decide_eq_true aO.pos,decide_eq_true aO.le]at dF
 rw[decide_eq_true ad.pos,decide_eq_true ad.le]at hH
 have fZ:=rn (kind:=kind) aO ad
 have dH:=EL (gQ kind a b) fZ.1 fZ.2.1 (by omega)
 rw[←Vf aO ad kind]at dH⊢
 have lB:=Vg aO ad
 have aoW:=Vh aO ad
 have aoX:rr a b=eF (iW a b) 1601 [0] 0:=rfl
 generalize rr a b=L at*
 simp only[ao.enc]at dF hH dH
 have Bb:(kind==6)=true∨((kind==6)=false∧(kind==7)=true):=by rcases ay with rfl | rfl<;>simp
 generalize cn:(some (bz (fw ⟨L.map (rp kind a b),L.map fun x=>kJ L (iW a b x)⟩),([]:List (Nat→Option ax))))=cO
 rw[run_eq ak 60 _ _ Tryz.func60 (by decide+kernel) rfl (show 3≤_ by decide)]
 dsimp only[Tryz.f60]
 rcases Bb with hO | ⟨hO,p6⟩
 case' inl=>simp only[go_sem,dF,hH,bne,hO,Bool.not_true,Bool.and_self]
 case' inr=>simp only[go_sem,dF,hH,bne,hO,p6,Bool.not_true,Bool.not_false,Bool.and_self]
 all_goals
  refine cz (fun p:Nat×List Nat=>p.1≤p.2.length∧p.2.length≤1600∧eF (iW a b) (1601-p.1) p.2 p.1=L) (fun p=>{t:=ae (ae (ae (ae (ae (ae (ae (ae bH 11 (.int .i64 p.1)) 10 (.slc true 1 (p.2.map aQ))) 9 (.ptr 0 9 0)) 8 (.int .i64 b.accept.length)) 6 (.ptr 0 6 0)) 4 (.ptr 0 4 0)) 3 (.ptr 0 3 0)) 2 (.int .i64 kind),b:=ae (ae (ae (ae bk 9 (some (ax.box [.slc true 1 ((L.take p.1).map (kK (rp kind a b))),.slc true 1 ((L.take p.1).map (kL (iW a b) L))]))) 6 (some (ax.box [.slc true 1 [],.slc true 1 []]))) 4 (some (ax.box [.slc false 1 (b.accept.map B),.slc false 1 (b.next.map bu)]))) 3 (some (ax.box [.slc false 1 (a.accept.map B),.slc false 1 (a.next.map bu)])),o:=[],r:=#[ResultVar.cell 6 31,ResultVar.tmp 7],f:=60,n:=143}) (fun _=>cO) (fun p=>1601-p.1) ?_ (0,[0]) ⟨Nat.zero_le _,by decide,aoX.symm⟩
  rintro⟨i,l⟩ ⟨hi,arQ,tC⟩ ag
  dsimp only at hi arQ tC⊢
  by_cases h:i<l.length
  rotate_left
  ·have aq:¬(i:Int)<l.length:=by omega
   rw[ki h]at tC
   subst tC
   rw[List.take_of_length_le (by omega),xV,xW]
   simp only[go_sem,aq,dH]
   rw[←cn]
   cases fw ⟨l.map (rp kind a b),l.map fun x=>kJ l (iW a b x)⟩with
   | none=>simp only[go_sem,bz]
   | some e=>simp only[go_sem,bz]
  have aq:(i:Int)<l.length:=by omega
  have b1:=cr (n:=i) (by omega)
  have fH:∀v:V,(l.map aQ).getD i v=aQ l[i]:=fun v=>getD_map h v
  have aR:1601-i=(1601-(i+1))+1:=by omega
  rw[aR,lb h]at tC
  have iU:l <+: L:=by rw[←tC];exact(fG _ _).trans (iS _ _ _ _)
  have nJ:b0 l (iW a b l[i]) <+: L:=by rw[←tC];exact iS _ _ _ _
  have qu:L.take (i+1)=L.take i++[l[i]]:=by
   rw[s8 iU h]
   congr 1
   obtain⟨m,rfl⟩:=iU
   rw[List.take_append_of_le_length (by omega)]
  have fe:(L.take i).length=i:=by
   have:=iU.length_le
   rw[List.length_take];omega
  have a1:=ag (i+1,b0 l (iW a b l[i])) ⟨Nat.le_trans h (fG _ _).length_le,Nat.le_trans nJ.length_le lB,tC⟩ (by show 1601-(i+1)<1601-i;omega)
  dsimp only at a1
  clear ag
  have v8:=aoW _ (iU.subset (List.getElem_mem h))
  rw[qu,List.map_append,List.map_append,List.map_cons,List.map_nil,List.map_cons,List.map_nil]at a1
  have mh:kK (rp kind a b) l[i]=.bool (if kind=6 then bB a (l[i] / b.accept.length)||bB b (l[i]%b.accept.length)else bB a (l[i] / b.accept.length)&&bB b (l[i]%b.accept.length)):=rfl
  have mi:kL (iW a b) L l[i]=.slc false 1 [aQ (cm L (iW a b l[i]).1),aQ (cm L (iW a b l[i]).2.1),aQ (cm L (iW a b l[i]).2.2)]:=rfl
  rw[mh,mi]at a1
  clear mh mi
  have aoY:iW a b l[i]=((a.aN (l[i] / b.accept.length)).1*b.accept.length+(b.aN (l[i]%b.accept.length)).1,(a.aN (l[i] / b.accept.length)).2.1*b.accept.length+(b.aN (l[i]%b.accept.length)).2.1,(a.aN (l[i] / b.accept.length)).2.2*b.accept.length+(b.aN (l[i]%b.accept.length)).2.2):=rfl
  have dq:(l[i]:Int).tdiv b.accept.length=((l[i] / b.accept.length:Nat):Int):=(Int.ofNat_tdiv _ _).symm
  have wB:(l[i]:Int).tmod b.accept.length=((l[i]%b.accept.length:Nat):Int):=(Int.ofNat_tmod _ _).symm
  have cw:¬(b.accept.length:Int)=0:=by omega
  generalize l[i]=x at*
  generalize aE:x / b.accept.length=q at*
  generalize aI:x%b.accept.length=r at*
  have A7:IntKind.i64.wrap (q:Int)=(q:Int):=hC (by omega) (by omega)
  have zX:∀v:V,(a.next.map bu).getD q v=bu (a.aN q):=fun v=>hW (by rw[aO.ok.1];exact v8.1) v
  have qx:∀v:V,(b.next.map bu).getD r v=bu (b.aN r):=fun v=>hW (by rw[ad.ok.1];exact v8.2.1) v
  have iu:∀v:V,(a.accept.map B).getD q v=B (bB a q):=fun v=>kH v8.1 v
  have qO:∀v:V,(b.accept.map B).getD r v=B (bB b r):=fun v=>kH v8.2.1 v
  have Lc:(q:Int)<a.next.length:=by rw[aO.ok.1];omega
  have ml:(r:Int)<b.next.length:=by rw[ad.ok.1];omega
  have aoZ:(q:Int)<a.accept.length:=by omega
  have ao0:(r:Int)<b.accept.length:=by omega
  have na:=ao.ie aO.ok v8.1
  have nb:=ao.ie ad.ok v8.2.1
  generalize a.aN q=A at*
  generalize b.aN r=C at*
  generalize iW a b x=aS at*
  generalize bB a q=ao1 at*
  generalize bB b r=arp at*
  have yy:∀j (au:j<3),(dp aS)[j]'(by rw[iH];exact au)=(dp A)[j]'(by rw[iH];exact au)*b.accept.length+(dp C)[j]'(by rw[iH];exact au)∧(dp A)[j]'(by rw[iH];exact au)<40∧(dp C)[j]'(by rw[iH];exact au)<40:=by
   intro j au
   rw[aoY]
   match j,au with
   | 0,_=>exact⟨rfl,by show A.1<40;omega,by show C.1<40;omega⟩
   | 1,_=>exact⟨rfl,by show A.2.1<40;omega,by show C.2.1<40;omega⟩
   | 2,_=>exact⟨rfl,by show A.2.2<40;omega,by show C.2.2<40;omega⟩
  simp only[go_sem,aq,fH,cw,dq,wB,A7]
  refine cz (fun j:Nat=>j≤3) (fun j=>{t:=ae (ae (ae (ae (ae (ae (ae (ae (ae (ae (ae (ae bH 15 (.int .i64 j)) 14 (.slc true 1 (((dp aS).take j).map (hh L)))) 13 (.int .i64 r)) 12 (.int .i64 q)) 11 (.int .i64 i)) 10 (.slc true 1 ((((dp aS).take j).foldl ins l).map aQ))) 9 (.ptr 0 9 0)) 8 (.int .i64 b.accept.length)) 6 (.ptr 0 6 0)) 4 (.ptr 0 4 0)) 3 (.ptr 0 3 0)) 2 (.int .i64 kind),b:=ae (ae (ae (ae bk 9 (some (ax.box [.slc true 1 ((L.take i).map (kK (rp kind a b))),.slc true 1 ((L.take i).map (kL (iW a b) L))]))) 6 (some (ax.box [.slc true 1 [],.slc true 1 []]))) 4 (some (ax.box [.slc false 1 (b.accept.map B),.slc false 1 (b.next.map bu)]))) 3 (some (ax.box [.slc false 1 (a.accept.map B),.slc false 1 (a.next.map bu)])),o:=[],r:=#[ResultVar.cell 6 31,ResultVar.tmp 7],f:=60,n:=143}) (fun _=>cO) (fun j=>3-j) ?_ 0 (by omega)
  intro j au lA
  by_cases aZ:j<3
  rotate_left
  ·obtain rfl:j=3:=by omega
   have cj:((dp aS).take 3).foldl ins l=b0 l aS:=rfl
   have da:((dp aS).take 3).map (hh L)=[aQ (cm L aS.1),aQ (cm L aS.2.1),aQ (cm L aS.2.2)]:=rfl
   rw[cj,da]
   have aW:¬((3:Nat):Int)<3:=by omega
   have aT:(i+1)*1≤140737488355328:=by omega
   have a2:(i+1)*24≤140737488355328:=by omega
   have sC:kind=6↔(kind==6)=true:=by simp
   simp only[sC,hO,if_true,if_false,Bool.false_eq_true]at a1
   cases ao1<;>simp only[go_sem,aW,aoZ,ao0,iu,qO,hO,fe,aT,a2,b1,Bool.true_and,Bool.false_and,Bool.true_or,Bool.false_or]at a1⊢<;>exact a1
  have aF:(j:Int)<3:=by omega
  have fX:=cr (n:=j) (by omega)
  have dc:((dp aS).take (j+1)).foldl ins l <+: L:=by
   refine List.IsPrefix.trans ?_ nJ
   rw[←I7]
   have e:(dp aS).foldl ins l=((dp aS).drop (j+1)).foldl ins (((dp aS).take (j+1)).foldl ins l):=by
    rw[←List.foldl_append,List.take_append_drop]
   rw[e]
   exact lg _ _
  have jm:j<(dp aS).length:=by rw[iH];exact aZ
  have cp:=lA (j+1) (by omega) (by omega)
  rw[pE _ _ jm]at dc cp
  rw[nz jm,List.map_append,List.map_cons,List.map_nil]at cp
  have qv:hh L (dp aS)[j]=aQ (cm L (dp aS)[j]):=rfl
  rw[qv]at cp
  obtain⟨A9,arq,GG⟩:=yy j aZ
  have lu:=Jh A aZ
  have Ld:=Jh C aZ
  generalize (dp A)[j]'(by rw[iH];exact aZ)=Bd at*
  generalize (dp C)[j]'(by rw[iH];exact aZ)=Cj at*
  generalize (dp aS)[j]=y at*
  have xy:Bd*b.accept.length≤40*40:=Nat.mul_le_mul (by omega) (by omega)
  have Le:IntKind.i64.wrap ((Bd:Int)*(b.accept.length:Int))=((Bd*b.accept.length:Nat):Int):=by
   rw[←Int.natCast_mul];exact hC (by omega) (by omega)
  have sQ:IntKind.i64.wrap (((Bd*b.accept.length:Nat):Int)+(Cj:Int))=(y:Int):=by
   rw[A9,←Int.natCast_add];exact hC (by omega) (by omega)
  have fo:(((dp aS).take j).map (hh L)).length=j:=by rw[List.length_map,List.length_take,iH];omega
  have aT:(j+1)*8≤140737488355328:=by omega
  generalize ((dp aS).take j).map (hh L)=row at*
  generalize ((dp aS).take j).foldl ins l=m at*
  have kS:=Nat.le_trans dc.length_le lB
  have iP:=(ig m y).length_le
  have ip:=s9 (l:=m) (x:=y)
  have f1:=Lb m (by omega) y
  have f2:=Lb (ins m y) (by omega) y
  rw[ip.1 L dc]at f2
  have ao2:L.idxOf y=cm L y:=rfl
  rw[ao2]at f2
  by_cases eT:y∈m
  ·have Be:¬(fv (fun z:Int=>z==(y:Int)) (m.map fun n:Nat=>(n:Int)) 0<0):=fun e=>ip.2.1 e eT
   rw[ins,if_pos eT]at cp f2
   rw[f1]at f2
   have f3:=(V.int.inj ((Prod.mk.inj (Option.some.inj f2)).1)).2
   rw[f3]at f1 Be
   simp only[go_sem,aF]
   rw[arO]
   rotate_left
   ·kernel_rfl
   simp only[go_sem,Lc,ml,zX,qx,aF,lu,Ld,Le,sQ,f1,Be,fo,aT,fX]
   exact cp
  ·have Be:fv (fun z:Int=>z==(y:Int)) (m.map fun n:Nat=>(n:Int)) 0<0:=ip.2.2 eT
   rw[ins,if_neg eT]at cp f2 kS
   rw[List.length_append]at kS
   simp only[List.length_cons,List.length_nil]at kS
   have a3:(m.length+1)*8≤140737488355328:=by omega
   have es:=ID m y
   rw[es]at cp f2
   simp only[go_sem,aF]
   rw[arO]
   rotate_left
   ·kernel_rfl
   simp only[go_sem,Lc,ml,zX,qx,aF,lu,Ld,Le,sQ,f1,Be,a3,f2,fo,aT,fX]
   exact cp
end Go.aB
namespace Go.aB
open Go Go.Proofs
set_option maxRecDepth 10000
set_option maxHeartbeats 4000000
theorem ao3 (d:ao) (h:bG d):run ak 96 [d.enc] []=some ((cF d 0).dX,[]):=by
 have ai:=h.le
 have eR:=vT d h.ok (by omega) h.pos
 rw[vo h.ok h.pos]at eR
 have mj:=asc d h.ok (by omega)
 rw[decide_eq_true h.pos,decide_eq_true h.le]at mj
 generalize cF d 0=q at eR⊢
 simp only[ao.enc,ao.dX]at eR mj
 rw[run_eq ak 96 _ _ Tryz.func96 (by decide+kernel) rfl (show 1≤_ by decide)]
 dsimp only[Tryz.f96]
 simp only[go_sem,mj,eR,Bool.and_self,Bool.not_true,ao.dX]
theorem Lf (d:ao) (h:bG d):run ak 61 [d.enc] []=some (.agg [.slc false 1 ((dY (cF d 0)).accept.map B),.uq 1 ((dY (cF d 0)).next.map gP)],[]):=by
 have eR:=ao3 d h
 have aE:=oJ h h.pos
 generalize cF d 0=q at eR aE⊢
 have arM:=aE.pos
 have hle:=aE.le
 simp only[ao.enc,ao.dX]at eR
 have du:q.accept≠[]:=fun e=>by rw[e]at arM;exact absurd arM (by decide)
 have rN:q.next≠[]:=fun e=>by have J:=aE.ok.1;rw[e]at J;simp at J;omega
 rw[run_eq ak 61 _ _ Tryz.func61 (by decide+kernel) rfl (show 1≤_ by decide)]
 dsimp only[Tryz.f61]
 simp only[go_sem,eR,du,rN]
 have aD:q.accept.map B=mP q.accept 0:=by rw[VE]
 have ao4:(dY q).accept=q.accept.map (!·):=rfl
 have fM:(dY q).next=q.next:=rfl
 conv in ax.arr _ _ _=>rw[aD]
 clear aD eR
 refine cz (fun i:Nat=>i≤q.accept.length) (fun i=>{t:=ae (ae (ae bH 4 (.int .i64 i)) 3 (.ptr 0 3 0)) 2 (.ptr 0 2 0),b:=ae (ae (ae (ae bk 217 (some (ax.arr false 1 (mP q.accept i)))) 3 (some (ax.box [.bS 0 217 q.accept.length,.uq 1 (q.next.map gP)]))) 2 (some (ax.box [.slc true 1 [],.slc true 1 []]))) 1 (some (ax.box [.slc false 1 (d.accept.map B),.slc false 1 (d.next.map bu)])),o:=[],r:=#[ResultVar.cell 2 31],f:=61,n:=25}) (fun _=>some (V.agg [V.slc false 1 ((q.accept.map (!·)).map B),V.uq 1 (q.next.map gP)],[])) (fun i=>q.accept.length-i) ?_ 0 (Nat.zero_le _)
 intro i hi ag
 have Lg:=VF q.accept i hi
 by_cases aL:i<q.accept.length
 ·have aq:(i:Int)<q.accept.length:=by omega
  have b1:=cr (n:=i) (by omega)
  have a1:=ag (i+1) (by omega) (by omega)
  have av:=fun v:V=>VH aL v
  have l7:=VI aL
  simp only[B]at av l7
  simp only[go_sem,aq]
  rw[arO]
  rotate_left
  ·kernel_rfl
  simp only[go_sem,aq,av,Lg,aL,l7,b1]
  exact a1
 ·have aq:¬(i:Int)<q.accept.length:=by omega
  obtain rfl:i=q.accept.length:=by omega
  have fE:=VG q.accept
  simp only[go_sem,aq,Lg,fE]
theorem Lh (d:ao) (h:bG d):run ak 26 [d.enc] []=some ((dY (cF d 0)).dC,[]):=by
 have ai:=h.le
 have mj:=v7 d h
 have arM:=h.pos
 have fm:(dY d).accept.length=d.accept.length:=by simp[dY]
 have eR:=vW (dY d) (D4 h.ok) (by omega) 0 (by omega)
 rw[VD h.ok arM]at eR
 have qy:((0:Nat):Int)=0:=rfl
 rw[qy]at eR
 generalize dY (cF d 0)=q at eR⊢
 have xz:(dY d).accept=d.accept.map (!·):=rfl
 have aY:(dY d).next=d.next:=rfl
 simp only[ao.enc,ao.dX,xz,aY]at eR mj
 rw[run_eq ak 26 _ _ Tryz.func26 (by decide+kernel) rfl (show 1≤_ by decide)]
 dsimp only[Tryz.f26]
 simp only[go_sem,mj,Bool.not_true]
 refine cz (fun i:Nat=>i≤d.accept.length) (fun i=>{t:=ae (ae (ae (ae (ae bH 16 (.int .i64 i)) 15 (.int .i64 d.accept.length)) 14 (.slc false 1 (d.accept.map B))) 3 (.ptr 0 3 0)) 2 (.ptr 0 2 0),b:=ae (ae (ae bk 3 (some (ax.box [.slc true 1 ((d.accept.take i).map D5),.slc false 1 (d.next.map bu)]))) 2 (some (ax.box [.slc true 1 [],.slc true 1 []]))) 1 (some (ax.box [.slc false 1 (d.accept.map B),.slc false 1 (d.next.map bu)])),o:=[],r:=#[ResultVar.cell 2 31],f:=26,n:=30}) (fun _=>some (q.dC,[])) (fun i=>d.accept.length-i) ?_ 0 (Nat.zero_le _)
 intro i hi ag
 by_cases aL:i<d.accept.length
 ·have aq:(i:Int)<d.accept.length:=by omega
  have b1:=cr (n:=i) (by omega)
  have a1:=ag (i+1) (by omega) (by omega)
  rw[nz aL,List.map_append,List.map_cons,List.map_nil]at a1
  have bo:D5 d.accept[i]=.bool !d.accept[i]:=rfl
  rw[bo]at a1
  have av:∀v:V,(d.accept.map B).getD i v=B d.accept[i]:=fun v=>getD_map aL v
  have fe:(d.accept.take i).length=i:=by rw[List.length_take];omega
  have aT:(i+1)*1≤140737488355328:=by omega
  simp only[go_sem,aq,av,fe,aT,b1]
  exact a1
 ·have aq:¬(i:Int)<d.accept.length:=by omega
  rw[List.take_of_length_le (by omega)]
  have bo:d.accept.map D5=(d.accept.map (!·)).map B:=by rw[List.map_map];rfl
  rw[bo]
  simp only[go_sem,aq,eR,ao.dC]
end Go.aB
namespace Go.aB
open Go Go.Proofs
set_option maxRecDepth 10000
theorem ao5 (s:ByteArray) (al:s.size≤9223372036854775806):run ak 67 [.str s] []=some (.bool (kG gL s 0),[]):=by
 rw[run_eq ak 67 _ _ Tryz.func67 (by decide+kernel) rfl (show 1≤_ by decide)]
 dsimp only[Tryz.f67]
 simp only[go_sem]
 refine Ic (fun i:Nat=>{t:=ae (ae bH 3 (.int .i64 i)) 0 (.str s),b:=bk,o:=[],r:=#[ResultVar.tmp 2],f:=67,n:=15}) (fun i=>some (.bool (kG gL s i),[])) (fun i=>s.size-i) ?_ 0
 intro i ag
 by_cases h:i<s.size
 ·have J:(i:Int)<s.size:=by omega
  have w:=cr (n:=i) (by omega)
  have f2:=EB (bC s i) (Al s i) (Am s i)
  rw[An gL s h]
  simp only[go_sem,J,f2]
  refine qf (fun c=>?_) (fun c=>?_)
  ·have bJ:gL (bC s i)=false:=by unfold gL;simp;omega
   simp only[go_sem,bJ,Bool.false_and]
  ·have bJ:gL (bC s i)=true:=by unfold gL;simp;omega
   simp only[go_sem,bJ,Bool.true_and,w]
   exact ag (i+1) (by omega)
 ·have J:¬(i:Int)<s.size:=by omega
  rw[Ao gL s h]
  simp only[go_sem,J]
theorem oN (s:ByteArray) (al:s.size≤9223372036854775806):run ak 33 [.str s] []=some (.bool (isWord s),[]):=by
 have f:=ao5 s al
 rw[run_eq ak 33 _ _ Tryz.func33 (by decide+kernel) rfl (show 1≤_ by decide)]
 dsimp only[Tryz.f33]
 unfold isWord
 simp only[go_sem,f]
 refine py (fun c=>?_) (fun c=>?_)
 ·have bJ:(s.size:Int)≤30:=by simpa using c
  have asg:s.size≤30:=by omega
  simp only[go_sem,bJ,asg,f,Bool.true_and]
 ·have bJ:¬(s.size:Int)≤30:=by simpa using c
  have asg:¬s.size≤30:=by omega
  simp only[go_sem,bJ,asg,Bool.false_and]
theorem rO (s:ByteArray) (al:s.size≤9223372036854775806):run ak 11 [.str s] []=some (.bool (isWord s),[]):=by
 rw[run_eq ak 11 _ _ Tryz.func11 (by decide+kernel) rfl (show 1≤_ by decide)]
 dsimp only[Tryz.f11]
 simp only[go_sem]
 refine(Ic (fun i:Nat=>{t:=ae (ae bH 3 (.int .i64 i)) 0 (.str s),b:=bk,o:=[],r:=#[ResultVar.tmp 2],f:=11,n:=18}) (fun i=>some (.bool (kG gL s i&&decide (s.size≤30)),[])) (fun i=>s.size-i) ?_ 0).trans ?_
 ·intro i ag
  by_cases h:i<s.size
  ·have J:(i:Int)<s.size:=by omega
   have w:=cr (n:=i) (by omega)
   have f2:=A4 (bC s i)
   rw[An gL s h]
   simp only[go_sem,J,f2]
   refine qf (fun c=>?_) (fun c=>?_)
   ·have bJ:gL (bC s i)=false:=by unfold gL;simp;omega
    simp only[go_sem,bJ,Bool.false_and]
   ·have bJ:gL (bC s i)=true:=by unfold gL;simp;omega
    simp only[go_sem,bJ,Bool.true_and,w]
    exact ag (i+1) (by omega)
  ·have J:¬(i:Int)<s.size:=by omega
   rw[Ao gL s h]
   by_cases c:s.size≤30
   ·have bJ:(s.size:Int)≤30:=by omega
    simp only[go_sem,J,c,bJ,Bool.true_and]
   ·have bJ:¬(s.size:Int)≤30:=by omega
    simp only[go_sem,J,c,bJ,Bool.true_and]
 ·unfold isWord
  rw[Bool.and_comm]
end Go.aB
namespace Go.aB
open Go Go.Proofs
set_option maxRecDepth 10000
set_option maxHeartbeats 4000000
theorem Li (s:ByteArray) (al:s.size≤9223372036854775806):run ak 84 [.str s] []=some (bz (if isWord s=true then some (cF (kl s) 0)else none),[]):=by
 have cE:=oN s al
 rw[run_eq ak 84 _ _ Tryz.func84 (by decide+kernel) rfl (show 1≤_ by decide)]
 dsimp only[Tryz.f84]
 by_cases hw:isWord s=true
 rotate_left
 ·have cR:isWord s=false:=by simpa using hw
  rw[cR]at cE⊢
  simp only[go_sem,cE,Bool.not_false,Bool.false_eq_true,if_false,bz]
 rw[if_pos hw]
 rw[hw]at cE
 have hle:=D6 hw
 have arL:=vz s
 have eR:=vW (kl s) arL.1 (by omega) 0 (by omega)
 have qy:((0:Nat):Int)=0:=rfl
 rw[qy]at eR
 generalize cF (kl s) 0=r at eR⊢
 obtain⟨N,rN⟩:∃N,N=s.size+2:=⟨_,rfl⟩
 have ER:(kl s).enc=.agg [.slc false 1 ((List.range (s.size+2)).map (tj s)),.slc false 1 ((List.range (s.size+2)).map (tk s))]:=by
  rw[JA,JB];rfl
 rw[ER,←rN]at eR
 simp only[ao.enc,ao.dX]at eR
 have j2:IntKind.i64.wrap ((s.size:Int)+2)=(N:Int):=by
  rw[hC (n:=(s.size:Int)+2) (by omega) (by omega)];omega
 have e2:IntKind.i64.wrap ((s.size:Int)+1)=((s.size+1:Nat):Int):=hC (by omega) (by omega)
 simp only[go_sem,cE,j2,Bool.not_true]
 refine cz (fun i:Nat=>i≤N) (fun i=>{t:=ae (ae (ae (ae (ae (ae bH 17 (.int .i64 i)) 16 (.int .i64 N)) 5 (.ptr 0 5 0)) 4 (.int .i64 s.size)) 2 (.ptr 0 2 0)) 0 (.str s),b:=ae (ae bk 5 (some (ax.box [.slc true 1 ((List.range i).map (tj s)),.slc true 1 ((List.range i).map (tk s))]))) 2 (some (ax.box [.slc true 1 [],.slc true 1 []])),o:=[],r:=#[ResultVar.cell 2 31,ResultVar.tmp 3],f:=84,n:=55}) (fun _=>some (bz (some r),[])) (fun i=>N-i) ?_ 0 (Nat.zero_le _)
 intro i hi ag
 by_cases h:i<N
 rotate_left
 ·have aq:¬(i:Int)<(N:Int):=by omega
  obtain rfl:i=N:=by omega
  simp only[go_sem,aq,eR,bz]
 have aq:(i:Int)<(N:Int):=by omega
 have b1:=cr (n:=i) (by omega)
 have a1:=ag (i+1) (by omega) (by omega)
 rw[List.range_succ,List.map_append,List.map_append,List.map_cons,List.map_nil,List.map_cons,List.map_nil]at a1
 have kn:tj s i=.bool ((i:Int)==(s.size:Int)):=rfl
 have kp:tk s i=.slc false 1 [aQ (ll s i 0),aQ (ll s i 1),aQ (ll s i 2)]:=rfl
 rw[kn,kp]at a1
 have fo:(List.range i).length=i:=List.length_range
 have aT:(i+1)*1≤140737488355328:=by omega
 have a2:(i+1)*24≤140737488355328:=by omega
 by_cases aC:i<s.size
 ·have eY:(i:Int)<s.size:=by omega
  have li:=EB (bC s i) (Al s i) (Am s i)
  unfold ll at a1
  rcases Jz hw aC with ai | ai | ai
  all_goals
   simp only[ai,aC,true_and,Int.reduceEq,if_true,if_false]at a1
   rw[ai]at li
   simp only[go_sem,aq,e2,eY,li,b1,fo,aT,a2]
   exact a1
 ·have eY:¬(i:Int)<s.size:=by omega
  unfold ll at a1
  simp only[aC,false_and,if_false]at a1
  simp only[go_sem,aq,e2,eY,b1,fo,aT,a2]
  exact a1
theorem Lj (s:ByteArray) (hw:isWord s=true):run ak 123 [.str s] []=some ((cF (kl s) 0).dC,[]):=by
 have hle:=D6 hw
 have arL:=vz s
 have eR:=vT (kl s) arL.1 (by omega) (by omega)
 rw[vo arL.1 (by omega)]at eR
 generalize cF (kl s) 0=r at eR⊢
 obtain⟨N,rN⟩:∃N,N=s.size+2:=⟨_,rfl⟩
 have ER:(kl s).enc=.agg [.slc false 1 ((List.range (s.size+2)).map (tj s)),.slc false 1 ((List.range (s.size+2)).map (tk s))]:=by
  rw[JA,JB];rfl
 rw[ER,←rN]at eR
 simp only[ao.dX]at eR
 have e2:IntKind.i64.wrap ((s.size:Int)+1)=((s.size+1:Nat):Int):=hC (by omega) (by omega)
 rw[run_eq ak 123 _ _ Tryz.func123 (by decide+kernel) rfl (show 1≤_ by decide)]
 dsimp only[Tryz.f123]
 simp only[go_sem,e2]
 refine cz (fun i:Nat=>i≤N) (fun i=>{t:=ae (ae (ae (ae (ae bH 5 (.int .i64 i)) 4 (.int .i64 (s.size+1:Nat))) 3 (.ptr 0 3 0)) 2 (.ptr 0 2 0)) 0 (.str s),b:=ae (ae bk 3 (some (ax.box [.slc true 1 ((List.range i).map (tj s)),.slc true 1 ((List.range i).map (tk s))]))) 2 (some (ax.box [.slc true 1 [],.slc true 1 []])),o:=[],r:=#[ResultVar.cell 2 31],f:=123,n:=60}) (fun _=>some (r.dC,[])) (fun i=>N-i) ?_ 0 (Nat.zero_le _)
 intro i hi ag
 by_cases h:i<N
 rotate_left
 ·have aq:¬(i:Int)≤((s.size+1:Nat):Int):=by omega
  obtain rfl:i=N:=by omega
  simp only[go_sem,aq,eR,ao.dC]
 have aq:(i:Int)≤((s.size+1:Nat):Int):=by omega
 have b1:=cr (n:=i) (by omega)
 have a1:=ag (i+1) (by omega) (by omega)
 rw[List.range_succ,List.map_append,List.map_append,List.map_cons,List.map_nil,List.map_cons,List.map_nil]at a1
 have kn:tj s i=.bool ((i:Int)==(s.size:Int)):=rfl
 have kp:tk s i=.slc false 1 [aQ (ll s i 0),aQ (ll s i 1),aQ (ll s i 2)]:=rfl
 rw[kn,kp]at a1
 have fo:(List.range i).length=i:=List.length_range
 have aT:(i+1)*1≤140737488355328:=by omega
 have a2:(i+1)*24≤140737488355328:=by omega
 simp only[go_sem,aq]
 by_cases aC:i<s.size
 ·have eY:(i:Int)<s.size:=by omega
  have li:=A4 (bC s i)
  unfold ll at a1
  rcases Jz hw aC with ai | ai | ai
  all_goals
   simp only[ai,aC,true_and,Int.reduceEq,if_true,if_false]at a1
   rw[ai]at li
   rw[iter_eq]
   simp only[go_sem,aq,e2,eY,li,b1]
   rw[iter_eq]
   simp only[go_sem,aq,e2,eY,li,b1]
   rw[iter_eq]
   simp only[go_sem,aq,e2,eY,li,b1]
   rw[iter_eq]
   simp only[go_sem,aq,e2,eY,li,b1,fo,aT,a2]
   exact a1
 ·have eY:¬(i:Int)<s.size:=by omega
  unfold ll at a1
  simp only[aC,false_and,if_false]at a1
  rw[iter_eq]
  simp only[go_sem,aq,e2,eY,b1]
  rw[iter_eq]
  simp only[go_sem,aq,e2,eY,b1]
  rw[iter_eq]
  simp only[go_sem,aq,e2,eY,b1]
  rw[iter_eq]
  simp only[go_sem,aq,e2,eY,b1,fo,aT,a2]
  exact a1
end Go.aB
namespace Go.aB
open Go Go.Proofs
set_option maxRecDepth 10000
set_option maxHeartbeats 4000000
theorem Lk (d:ao) (aj:d.ok) (aC:d.accept.length≤40) (S l:Nat) (ai:l<3) (a8:S<2^d.accept.length):run ak 108 [d.enc,.int .u64 S,.int .i64 l] []=some (.int .u64 (fP d S l),[]):=by
 generalize cn:(some (V.int .u64 (fP d S l),[]):Option (V×List (Nat→Option ax)))=cO
 have oh:=aj.1
 simp only[ao.enc]
 rw[run_eq ak 108 _ _ Tryz.func108 (by decide+kernel) rfl (show 3≤_ by decide)]
 dsimp only[Tryz.f108]
 simp only[go_sem]
 refine cz (fun i:Nat=>i≤d.accept.length) (fun i=>{t:=ae (ae (ae (ae (ae (ae bH 13 (.int .i64 i)) 12 (.int .i64 d.next.length)) 11 (.slc false 1 (d.next.map bu))) 7 (.int .u64 (ql d l S i))) 2 (.int .i64 l)) 1 (.int .u64 S),b:=ae bk 3 (some (ax.box [.slc false 1 (d.accept.map B),.slc false 1 (d.next.map bu)])),o:=[],r:=#[ResultVar.tmp 6],f:=108,n:=32}) (fun _=>cO) (fun i=>d.accept.length-i) ?_ 0 (Nat.zero_le _)
 intro i hi ag
 by_cases h:i<d.accept.length
 rotate_left
 ·have aq:¬(i:Int)<d.next.length:=by omega
  obtain rfl:i=d.accept.length:=by omega
  subst cn
  simp only[go_sem,aq,fP]
 have aq:(i:Int)<d.next.length:=by omega
 have aF:(l:Int)<3:=by omega
 have b1:=cr (n:=i) (by omega)
 have a1:=ag (i+1) (by omega) (by omega)
 rw[Ji]at a1
 have Bf:∀v:V,(d.next.map bu).getD i v=bu (d.aN i):=fun v=>hW (by omega) v
 have ad:=Jk S i (by omega)
 have hB:=x1 i
 unfold AM at a1
 by_cases a8:S.testBit i=true
 ·rw[if_pos a8]at ad a1
  have aE:=xZ (qk aj i h) ai
  have j7:=Vr (iI (d.aN i) l) (by omega)
  have ao6:=u64_or (ql d l S i) (2^iI (d.aN i) l) (Nat.lt_of_lt_of_le (Jj aj ai S i hi) (Nat.pow_le_pow_right (by decide) (by omega))) (Nat.pow_lt_pow_right (by decide) (by omega))
  have aF:(l:Int)<3:=by omega
  have ao7:=x1 (iI (d.aN i) l)
  have g3:=AL (d.aN i) ai
  generalize d.aN i=t at*
  generalize e5:iI t l=Q at*
  generalize ql d l S i=m at*
  simp only[go_sem,aq,aF,b1,Bf,ad,hB,ao7,g3,j7,ao6]
  exact a1
 ·rw[if_neg a8]at ad a1
  simp only[go_sem,aq,b1,Bf,ad,hB]
  exact a1
theorem ES (d:ao) (aj:d.ok) (aC:d.accept.length≤40) (S:Nat):run ak 106 [d.enc,.int .u64 S] []=some (B (jr d S),[]):=by
 unfold jr
 have oh:=aj.1
 simp only[ao.enc]
 rw[run_eq ak 106 _ _ Tryz.func106 (by decide+kernel) rfl (show 2≤_ by decide)]
 dsimp only[Tryz.f106]
 simp only[go_sem]
 refine cz (fun i:Nat=>i≤d.accept.length∧(List.range i).any (fun q=>bB d q&&S.testBit q)=false) (fun i=>{t:=ae (ae (ae (ae bH 10 (.int .i64 i)) 9 (.int .i64 d.accept.length)) 8 (.slc false 1 (d.accept.map B))) 1 (.int .u64 S),b:=ae bk 2 (some (ax.box [.slc false 1 (d.accept.map B),.slc false 1 (d.next.map bu)])),o:=[],r:=#[ResultVar.tmp 4],f:=106,n:=24}) (fun _=>some (B ((List.range d.accept.length).any fun q=>bB d q&&S.testBit q),[])) (fun i=>d.accept.length-i) ?_ 0 ⟨Nat.zero_le _,rfl⟩
 rintro i ⟨hi,aJ⟩ ag
 by_cases h:i<d.accept.length
 rotate_left
 ·have aq:¬(i:Int)<d.accept.length:=by omega
  obtain rfl:i=d.accept.length:=by omega
  rw[aJ]
  simp only[go_sem,aq]
 have aq:(i:Int)<d.accept.length:=by omega
 have b1:=cr (n:=i) (by omega)
 have qx:∀v:V,(d.accept.map B).getD i v=B (bB d i):=fun v=>kH h v
 have ad:=Jk S i (by omega)
 have hB:=x1 i
 have a1:=fun bj=>ag (i+1) ⟨by omega,bj⟩ (by omega)
 rw[List.range_succ,List.any_append,aJ,Bool.false_or,List.any_cons,List.any_nil,Bool.or_false]at a1
 have aA:∀b,(bB d i&&S.testBit i)=b→b=true→(List.range d.accept.length).any (fun q=>bB d q&&S.testBit q)=true:=by
  rintro b e rfl
  exact List.any_eq_true.2 ⟨i,List.mem_range.2 h,e⟩
 generalize (List.range d.accept.length).any (fun q=>bB d q&&S.testBit q)=res at*
 generalize bB d i=A at*
 cases A
 ·have cp:=a1 rfl
  simp only[go_sem,aq,b1,qx]
  exact cp
 by_cases a8:S.testBit i=true
 ·rw[if_pos a8]at ad
  rw[aA true (by rw[a8];rfl) rfl]
  simp only[go_sem,aq,b1,qx,ad,hB]
 ·rw[if_neg a8]at ad
  have cp:=a1 (by simpa using a8)
  simp only[go_sem,aq,b1,qx,ad,hB]
  exact cp
end Go.aB
namespace Go.aB
open Go Go.Proofs
set_option maxRecDepth 10000
set_option maxHeartbeats 4000000
theorem Ll (a:ao) (x:Nat×Nat) (J:x.1<a.accept.length) (aa:x.2<2^64) (k:Nat) (os:List (Nat→Option ax)) (aj:os.length≠0) (ay:bV k 0 os=some (.box [.slc false 1 (a.accept.map B),.slc false 1 (a.next.map bu)])):
 run ak 103 [dZ x,.ptr 0 k 0] os=some (dZ (arS a x),os):=by
 have dA:¬0=os.length:=fun e=>aj e.symm
 have cB:(x.1:Int)<a.accept.length:=by omega
 have g1:∀v:V,(a.accept.map B).getD x.1 v=B (bB a x.1):=fun v=>kH J v
 have Bg:=Jl x.2 aa
 unfold arS
 generalize bB a x.1=A at g1⊢
 simp only[dZ,aQ]
 rw[run_eq ak 103 _ _ Tryz.func103 (by decide+kernel) rfl (show 2≤_ by decide)]
 dsimp only[Tryz.f103]
 cases A
 ·simp only[go_sem,dA,ay,cB,g1]
 ·simp only[go_sem,dA,ay,cB,g1,Bg]
theorem ao8 (b:ao) (ad:bG b) (x:Nat×Nat) (k:Nat) (os:List (Nat→Option ax)) (aj:os.length≠0) (ay:bV k 0 os=some (.box [.slc false 1 (b.accept.map B),.slc false 1 (b.next.map bu)])):
 run ak 105 [dZ x,.ptr 0 k 0] os=some (.bool (ru b x),os):=by
 have dA:¬0=os.length:=fun e=>aj e.symm
 have ac:=ES b ad.ok ad.le x.2
 unfold ru
 generalize jr b x.2=A at ac⊢
 simp only[ao.enc]at ac
 simp only[dZ,aQ]
 rw[run_eq ak 105 _ _ Tryz.func105 (by decide+kernel) rfl (show 2≤_ by decide)]
 dsimp only[Tryz.f105]
 simp only[go_sem,dA,ay,ac]
theorem ao9 (a b:ao) (aO:bG a) (ad:bG b) (x:Nat×Nat) (U:oD a b x) (i:Nat) (hi:i<3) (aq aF aW:Nat) (os:List (Nat→Option ax)) (aj:os.length≠0) (od:bV aq 0 os=some (.box [.fn 103 [.ptr 0 aF 0]])) (pb:bV aF 0 os=some (.box [.slc false 1 (a.accept.map B),.slc false 1 (a.next.map bu)])) (pJ:bV aW 0 os=some (.box [.slc false 1 (b.accept.map B),.slc false 1 (b.next.map bu)])):
 run ak 107 [dZ x,.int .i64 i,.ptr 0 aq 0,.ptr 0 aF 0,.ptr 0 aW 0] os=some (dZ ((bD (lj a b x))[i]'(by rw[kj];exact hi)),os):=by
 rw[Vs a b x hi]
 have dA:¬0=os.length:=fun e=>aj e.symm
 have cB:(x.1:Int)<a.next.length:=by have:=U.1;have:=aO.ok.1;omega
 have dJ:(i:Int)<3:=by omega
 have g1:∀v:V,(a.next.map bu).getD x.1 v=bu (a.aN x.1):=fun v=>hW (by rw[aO.ok.1];exact U.1) v
 have g3:=AL (a.aN x.1) hi
 have aE:=xZ (qk aO.ok x.1 U.1) hi
 have fc:=Lk b ad.ok ad.le x.2 i hi U.2
 have hm:=mN ad.ok hi x.2
 have oO:=fun(cw:Nat→Option ax)=>Ll a (iI (a.aN x.1) i,fP b x.2 i) aE (Jn ad.le hm) aF (cw::os) (by simp) (by rw[k7 (by omega)];exact pb)
 generalize a.aN x.1=t at g1 g3 oO⊢
 generalize iI t i=Q at g3 oO⊢
 generalize fP b x.2 i=M at fc oO⊢
 generalize arS a (Q,M)=R at oO⊢
 simp only[ao.enc,dZ,aQ]at fc oO⊢
 rw[run_eq ak 107 _ _ Tryz.func107 (by decide+kernel) rfl (show 5≤_ by decide)]
 dsimp only[Tryz.f107]
 simp only[go_sem]
 rw[arO]
 rotate_left
 ·kernel_rfl
 simp only[go_sem,dA,od,pb,pJ,cB,dJ,g1,g3,fc,oO]
theorem ET (aq:Nat) (b:Nat→Option ax):∀(st:ab) (objs:_),st.o=[b]→([.ptr 0 aq 0]:List V).all (jZ st objs)=true:=by
 intro st objs h;simp[jZ,ab.lv,h]
theorem apa (a b:ao) (aO:bG a) (ad:bG b):run ak 85 [a.enc,b.enc] []=some (bz (oF a b),[]):=by
 have dF:=v7 a aO
 have hH:=v7 b ad
 have EU:oD a b (arS a (0,0)):=tg ad ⟨aO.pos,Nat.two_pow_pos _⟩
 have dH:=fun(ai:(oE a b).length≤400)=>EK (er (lj a b) (ru b) (oE a b)) (kk ai).1 (kk ai).2.1 (by have:=(kk (acc:=ru b) ai).2.2;unfold oE;omega)
 have oO:=fun(cw:Nat→Option ax) (ay:cw 2=some (.box [.slc false 1 (a.accept.map B),.slc false 1 (a.next.map bu)]))=>Ll a (0,0) aO.pos (by decide) 2 [cw] (by simp) ay
 have ex:=fun(gW:Nat→Option ax) (b4:gW 6=some (.box [.fn 103 [.ptr 0 2 0]])) (aa:gW 2=some (.box [.slc false 1 (a.accept.map B),.slc false 1 (a.next.map bu)])) (ar:gW 3=some (.box [.slc false 1 (b.accept.map B),.slc false 1 (b.next.map bu)]))=>
  La (lj a b) (ru b) 400 (arS a (0,0)) (oD a b) (by decide) (by decide) EU (fun x U=>x2 aO ad U) 105 107 [.ptr 0 3 0] [.ptr 0 6 0,.ptr 0 2 0,.ptr 0 3 0] [gW] (by simp) (ET 3 gW) (rI 6 2 3 gW) rfl rfl
   (fun x U cw=>ao8 b ad x 3 _ (by simp) (by rw[k7 (by simp)];exact ar))
   (fun x U i hi cw=>ao9 a b aO ad x U i hi 6 2 3 _ (by simp) (by rw[k7 (by simp)];exact b4) (by rw[k7 (by simp)];exact aa) (by rw[k7 (by simp)];exact ar)) (by kernel_rfl) (by kernel_rfl)
 have ar4:eX (lj a b) 400 (arS a (0,0))=oE a b:=rfl
 rw[ar4]at ex
 have yw:((400:Nat):Int)=400:=rfl
 rw[yw]at ex
 have yx:((0:Nat):Int)=0:=rfl
 simp only[dZ,aQ,yx]at ex oO
 unfold oF
 generalize arS a (0,0)=bE at ex oO
 simp only[ao.enc]at dF hH
 rw[run_eq ak 85 _ _ Tryz.func85 (by decide+kernel) rfl (show 2≤_ by decide)]
 dsimp only[Tryz.f85]
 by_cases ai:(oE a b).length≤400
 ·rw[if_pos ai]at ex⊢
  have dH:=dH ai
  generalize er (lj a b) (ru b) (oE a b)=d at dH ex⊢
  generalize aI:fw d=r at dH⊢
  simp only[ao.enc]at dH ex
  simp only[go_sem,dF,hH,Bool.not_true]
  rw[oO _ rfl]
  simp only[go_sem]
  rw[ex _ rfl rfl rfl]
  cases r with
  | none=>simp only[go_sem,dH,bz]
  | some e=>simp only[go_sem,dH,bz]
 ·rw[if_neg ai]at ex⊢
  simp only[go_sem,dF,hH,Bool.not_true]
  rw[oO _ rfl]
  simp only[go_sem]
  rw[ex _ rfl rfl rfl]
  simp only[go_sem,bz]
theorem apb (d:ao) (aw:bG d) (x:Nat×Nat) (k:Nat) (os:List (Nat→Option ax)) (aj:os.length≠0) (ay:bV k 0 os=some (.box [.slc false 1 (d.accept.map B),.slc false 1 (d.next.map bu)])):
 run ak 109 [dZ x,.ptr 0 k 0] os=some (.bool (rv d x),os):=by
 have dA:¬0=os.length:=fun e=>aj e.symm
 have ac:=ES d aw.ok aw.le x.2
 have aR:((x.1:Int)==1)=(x.1==1):=kh x.1 1
 unfold rv
 generalize jr d x.2=A at ac⊢
 simp only[ao.enc]at ac
 simp only[dZ,aQ]
 rw[run_eq ak 109 _ _ Tryz.func109 (by decide+kernel) rfl (show 2≤_ by decide)]
 dsimp only[Tryz.f109]
 cases U:(x.1==1)
 ·rw[U]at aR
  simp only[go_sem,dA,ay,ac,aR]
 ·rw[U]at aR
  simp only[go_sem,dA,ay,ac,aR]
theorem apc (d:ao) (aw:bG d) (x:Nat×Nat) (U:nC d x) (i:Nat) (hi:i<3) (k:Nat) (os:List (Nat→Option ax)) (aj:os.length≠0) (ay:bV k 0 os=some (.box [.slc false 1 (d.accept.map B),.slc false 1 (d.next.map bu)])):
 run ak 110 [dZ x,.int .i64 i,.ptr 0 k 0] os=some (dZ ((bD (nB d x))[i]'(by rw[kj];exact hi)),os):=by
 rw[Vt d x hi]
 have dA:¬0=os.length:=fun e=>aj e.symm
 have fc:=Lk d aw.ok aw.le x.2 i hi U.2
 have hm:=mN aw.ok hi x.2
 have Bg:=Jl (fP d x.2 i) (Jn aw.le hm)
 have ac:=ES d aw.ok aw.le (fP d x.2 i)
 unfold nA
 generalize fP d x.2 i=M at fc ac Bg⊢
 generalize jr d M=A at ac⊢
 have yx:((0:Nat):Int)=0:=rfl
 simp only[ao.enc,dZ,aQ,yx]at fc ac⊢
 rw[run_eq ak 110 _ _ Tryz.func110 (by decide+kernel) rfl (show 3≤_ by decide)]
 dsimp only[Tryz.f110]
 cases A
 ·simp only[go_sem,dA,ay,fc,ac]
 ·simp only[go_sem,dA,ay,fc,ac,Bg]
theorem apd (d:ao) (aw:bG d):run ak 86 [d.enc] []=some (bz (oG d),[]):=by
 have dF:=v7 d aw
 have EU:nC d (1,1):=⟨by show 1<2;decide,Nat.one_lt_two_pow (by have:=aw.pos;omega)⟩
 have dH:=fun(ai:(mO d).length≤400)=>EK (er (nB d) (rv d) (mO d)) (kk ai).1 (kk ai).2.1 (by have:=(kk (acc:=rv d) ai).2.2;unfold mO;omega)
 have ex:=fun(gW:Nat→Option ax) (J:gW 1=some (.box [.slc false 1 (d.accept.map B),.slc false 1 (d.next.map bu)]))=>
  La (nB d) (rv d) 400 (1,1) (nC d) (by decide) (by decide) EU (fun x U=>AO aw U) 109 110 [.ptr 0 1 0] [.ptr 0 1 0] [gW] (by simp) (ET 1 gW) (ET 1 gW) rfl rfl
   (fun x U cw=>apb d aw x 1 _ (by simp) (by rw[k7 (by simp)];exact J))
   (fun x U i hi cw=>apc d aw x U i hi 1 _ (by simp) (by rw[k7 (by simp)];exact J)) (by kernel_rfl) (by kernel_rfl)
 have ar4:eX (nB d) 400 (1,1)=mO d:=rfl
 rw[ar4]at ex
 have yw:((400:Nat):Int)=400:=rfl
 rw[yw]at ex
 have ape:((1:Nat):Int)=1:=rfl
 simp only[dZ,aQ,ape]at ex
 unfold oG
 simp only[ao.enc]at dF
 rw[run_eq ak 86 _ _ Tryz.func86 (by decide+kernel) rfl (show 1≤_ by decide)]
 dsimp only[Tryz.f86]
 by_cases ai:(mO d).length≤400
 ·rw[if_pos ai]at ex⊢
  have dH:=dH ai
  generalize er (nB d) (rv d) (mO d)=D at dH ex⊢
  generalize aI:fw D=r at dH⊢
  simp only[ao.enc]at dH ex
  simp only[go_sem,dF,Bool.not_true]
  rw[ex _ rfl]
  cases r with
  | none=>simp only[go_sem,dH,bz]
  | some e=>simp only[go_sem,dH,bz]
 ·rw[if_neg ai]at ex⊢
  simp only[go_sem,dF,Bool.not_true]
  rw[ex _ rfl]
  simp only[go_sem,bz]
end Go.aB
namespace Go.aB
open Go Go.Proofs
set_option maxRecDepth 10000
set_option maxHeartbeats 4000000
theorem apf (l m:List Int) (ai:l.length≤1048576) (hm:m.length≤1048576):run ak 29 [.slc false 1 (l.map I),.slc false 1 (m.map I)] []=some (.bool (l==m),[]):=by
 rw[run_eq ak 29 _ _ Tryz.func29 (by decide+kernel) rfl (show 2≤_ by decide)]
 dsimp only[Tryz.f29]
 cases k:((l.length:Int)==m.length)
 ·have aY:(l==m)=false:=by
   rw[beq_eq_false_iff_ne]
   rintro rfl
   simp at k
  simp only[go_sem,bne,k,Bool.not_false,aY]
 have aC:l.length=m.length:=by have:=eq_of_beq k;omega
 simp only[go_sem,bne,k,Bool.not_true]
 refine cz (fun i:Nat=>i≤l.length) (fun i=>{t:=ae (ae (ae bH 5 (.int .i64 i)) 1 (.slc false 1 (m.map I))) 0 (.slc false 1 (l.map I)),b:=bk,o:=[],r:=#[ResultVar.tmp 4],f:=29,n:=26}) (fun i=>some (.bool (l.drop i==m.drop i),[])) (fun i=>l.length-i) ?_ 0 (Nat.zero_le _)
 intro i hi ag
 by_cases h:i<l.length
 ·have J:(i:Int)<l.length:=by omega
  have aa:(i:Int)<m.length:=by omega
  have w:=cr (n:=i) (by omega)
  have aZ:i<m.length:=by omega
  rw[Wa h aZ]
  simp only[go_sem,J]
  rw[arO]
  rotate_left
  ·kernel_rfl
  cases c:(l[i]==m[i])
  ·simp only[go_sem,J,aa,getD_map h,getD_map aZ,bne,c,Bool.not_false,Bool.false_and]
  ·simp only[go_sem,J,aa,w,getD_map h,getD_map aZ,bne,c,Bool.not_true,Bool.true_and]
   exact ag (i+1) (by omega) (by omega)
 ·have J:¬(i:Int)<l.length:=by omega
  rw[List.drop_eq_nil_of_le (by omega),List.drop_eq_nil_of_le (by omega)]
  simp only[go_sem,J]
theorem apg (A C:List Nat) (q:Nat) (m:Bool) (du:∀x∈A,x<q) (hv:∀x∈C,q<x) (ai:A.length+C.length≤1048576):
 run ak 126 [.slc false 1 ((A++(if m=true then[q]else[])++C).map aQ),.int .i64 q] []=some (.slc false 1 ((A++q::C).map aQ),[]):=by
 obtain⟨L,cK⟩:∃L,L=A++(if m=true then[q]else[])++C:=⟨_,rfl⟩
 rw[←cK]
 have lB:L.length≤1048577:=by rw[cK,List.length_append,List.length_append];cases m<;>simp<;>omega
 generalize cn:(some (V.slc false 1 ((A++q::C).map aQ),[]):Option (V×List (Nat→Option ax)))=cO
 rw[run_eq ak 126 _ _ Tryz.func126 (by decide+kernel) rfl (show 2≤_ by decide)]
 dsimp only[Tryz.f126]
 simp only[go_sem]
 refine cz (fun i:Nat=>i≤A.length) (fun i=>{t:=ae (ae (ae bH 5 (.int .i64 i)) 1 (.int .i64 q)) 0 (.slc false 1 (L.map aQ)),b:=bk,o:=[],r:=#[ResultVar.tmp 4],f:=126,n:=48}) (fun _=>cO) (fun i=>A.length-i) ?_ 0 (Nat.zero_le _)
 intro i hi ag
 have ars:A.length≤L.length:=by rw[cK,List.length_append,List.length_append];omega
 have b1:=cr (n:=i) (by omega)
 by_cases h:i<A.length
 ·have aq:(i:Int)<L.length:=by omega
  have av:L[i]?=some A[i]:=by rw[cK,List.append_assoc,List.getElem?_append_left h,List.getElem?_eq_getElem h]
  have g:∀v:V,(L.map aQ).getD i v=.int .i64 (A[i]:Nat):=by
   intro v
   rw[List.getD_eq_getElem?_getD,List.getElem?_map,av]
   rfl
  have aL:((A[i]:Nat):Int)<q:=by have:=du _ (List.getElem_mem h);omega
  simp only[go_sem,aq,g,aL,b1]
  exact ag (i+1) (by omega) (by omega)
 obtain rfl:i=A.length:=by omega
 have Lm:(L.map aQ).take A.length=A.map aQ:=by rw[←List.map_take,cK,List.append_assoc,List.take_left]
 cases m with
 | true=>
   have ar4:L=A++q::C:=by rw[cK,if_pos rfl,List.append_assoc,List.singleton_append]
   rw[←ar4]at cn
   have aq:(A.length:Int)<L.length:=by rw[ar4,List.length_append,List.length_cons];omega
   have g:∀v:V,(L.map aQ).getD A.length v=.int .i64 (q:Nat):=by
    intro v
    rw[List.getD_eq_getElem?_getD,List.getElem?_map,ar4,List.getElem?_append_right (Nat.le_refl _),Nat.sub_self]
    rfl
   have jc:¬(q:Int)<q:=by omega
   subst cn
   simp only[go_sem,aq,g,jc]
 | false=>
   rw[if_neg (by decide),List.append_nil]at cK
   have lU:(L.map aQ).drop A.length=C.map aQ:=by rw[←List.map_drop,cK,List.drop_left]
   have qe:A.map aQ++[.int .i64 (q:Nat)]++C.map aQ=(A++q::C).map aQ:=by
    rw[List.map_append,List.map_cons,List.append_assoc,List.singleton_append];rfl
   have qX:L.length=A.length+C.length:=by rw[cK,List.length_append]
   cases C with
   | nil=>
     have aq:¬(A.length:Int)<L.length:=by rw[qX,List.length_nil];omega
     subst cn
     have uy:L.length=A.length:=by rw[qX,List.length_nil];omega
     have yy:(L.map aQ).take L.length=L.map aQ:=List.take_of_length_le (by rw[List.length_map];omega)
     have EV:min A.length L.length=A.length:=by omega
     have ar5:min L.length L.length=L.length:=by omega
     have bt:(A.length:Int)≤L.length:=by omega
     have bq:A.length*8≤140737488355328:=by omega
     have cN:(A.length+1)*8≤140737488355328:=by omega
     have gI:(A.length+1+(L.length-A.length))*8≤140737488355328:=by omega
     simp only[go_sem,aq,yy,EV,ar5,Lm,lU,bt,bq,cN,gI]
     rw[List.map_append];rfl
   | cons c C=>
     have aq:(A.length:Int)<L.length:=by rw[qX,List.length_cons];omega
     have g:∀v:V,(L.map aQ).getD A.length v=.int .i64 (c:Nat):=by
      intro v
      rw[List.getD_eq_getElem?_getD,List.getElem?_map,cK,List.getElem?_append_right (Nat.le_refl _),Nat.sub_self]
      rfl
     have ao4:=hv c (List.mem_cons_self ..)
     have jc:¬(c:Int)<q:=by omega
     have aph:((c:Int)==q)=false:=by rw[kh];simpa using(by omega:¬c=q)
     subst cn
     have yy:(L.map aQ).take L.length=L.map aQ:=List.take_of_length_le (by rw[List.length_map];omega)
     have EV:min A.length L.length=A.length:=by omega
     have ar5:min L.length L.length=L.length:=by omega
     have bt:(A.length:Int)≤L.length:=by omega
     have bq:A.length*8≤140737488355328:=by omega
     have cN:(A.length+1)*8≤140737488355328:=by omega
     have gI:(A.length+1+(L.length-A.length))*8≤140737488355328:=by omega
     have q5:(A.length+1+(C.length+1))*8≤140737488355328:=by rw[List.length_cons]at ai;omega
     simp only[go_sem,aq,g,jc,aph,yy,EV,ar5,Lm,lU,bt,bq,cN,gI,q5]
     rw[List.map_append,List.map_cons,List.map_cons,List.append_assoc];rfl
theorem EW (S q:Nat) (aE:q<40):run ak 126 [.slc false 1 ((dO S).map aQ),.int .i64 q] []=some (.slc false 1 ((dO (S ||| 2^q)).map aQ),[]):=by
 obtain⟨A,C,du,hv,aR,a7⟩:=Vi S q aE
 have ai:A.length+C.length≤1048576:=by
  have:=x0 S
  rw[aR,List.length_append,List.length_append]at this
  omega
 have:=apg A C q (S.testBit q) du hv ai
 rw[aR,a7]
 exact this
def tD (d:ao) (l:Nat) (m q:Nat):Nat:=m ||| 2^iI (d.aN q) l
theorem Ln (d:ao) (aj:d.ok) (aC:d.accept.length≤40) (S l:Nat) (ai:l<3) (a8:S<2^d.accept.length):run ak 124 [d.enc,.slc false 1 ((dO S).map aQ),.int .i64 l] []=some (.slc false 1 ((dO (fP d S l)).map aQ),[]):=by
 rw[←Vl l aC a8]
 have hlen:=x0 S
 have jn:∀x∈dO S,x<d.accept.length:=fun x U=>AN a8 (vw.1 U).2
 generalize dO S=L at hlen jn⊢
 have aJ:(fun m q=>m ||| 2^iI (d.aN q) l)=tD d l:=rfl
 rw[aJ]
 generalize cn:(some (V.slc false 1 ((dO (L.foldl (tD d l) 0)).map aQ),[]):Option (V×List (Nat→Option ax)))=cO
 have aD:(dO 0).map aQ=[]:=by
  have:dO 0=[]:=by decide
  rw[this];rfl
 simp only[ao.enc]
 rw[run_eq ak 124 _ _ Tryz.func124 (by decide+kernel) rfl (show 3≤_ by decide)]
 dsimp only[Tryz.f124]
 simp only[go_sem]
 rw[←aD]
 refine cz (fun i:Nat=>i≤L.length) (fun i=>{t:=ae (ae (ae (ae (ae bH 8 (.int .i64 i)) 7 (.slc false 1 ((dO ((L.take i).foldl (tD d l) 0)).map aQ))) 3 (.ptr 0 3 0)) 2 (.int .i64 l)) 1 (.slc false 1 (L.map aQ)),b:=ae bk 3 (some (ax.box [.slc false 1 (d.accept.map B),.slc false 1 (d.next.map bu)])),o:=[],r:=#[ResultVar.tmp 6],f:=124,n:=30}) (fun _=>cO) (fun i=>L.length-i) ?_ 0 (Nat.zero_le _)
 intro i hi ag
 by_cases h:i<L.length
 rotate_left
 ·have aq:¬(i:Int)<L.length:=by omega
  rw[List.take_of_length_le (by omega)]
  subst cn
  simp only[go_sem,aq]
 have aq:(i:Int)<L.length:=by omega
 have aF:(l:Int)<3:=by omega
 have b1:=cr (n:=i) (by omega)
 have a1:=ag (i+1) (by omega) (by omega)
 rw[pE _ _ h]at a1
 have U:=jn _ (List.getElem_mem h)
 have aW:((L[i]:Nat):Int)<d.next.length:=by rw[aj.1];omega
 have eu:∀v:V,(L.map aQ).getD i v=.int .i64 (L[i]:Nat):=fun v=>getD_map h v
 have Bf:∀v:V,(d.next.map bu).getD L[i] v=bu (d.aN L[i]):=fun v=>hW (by rw[aj.1];exact U) v
 have aE:=xZ (qk aj _ U) ai
 have g3:=AL (d.aN L[i]) ai
 have em:tD d l ((L.take i).foldl (tD d l) 0) L[i]=(L.take i).foldl (tD d l) 0 ||| 2^iI (d.aN L[i]) l:=rfl
 rw[em]at a1
 generalize L[i]=x at*
 generalize d.aN x=t at*
 generalize (L.take i).foldl (tD d l) 0=M at*
 have ml:=EW M (iI t l) (by omega)
 generalize iI t l=Q at*
 simp only[go_sem,aq]
 rw[arO]
 rotate_left
 ·kernel_rfl
 simp only[go_sem,aq,aF,aW,eu,Bf,g3,ml,b1]
 exact a1
theorem EX (d:ao) (aC:d.accept.length≤40) (S:Nat) (a8:S<2^d.accept.length):run ak 125 [d.enc,.slc false 1 ((dO S).map aQ)] []=some (.bool (jr d S),[]):=by
 rw[←Vm aC a8]
 have hlen:=x0 S
 have jn:∀x∈dO S,x<d.accept.length:=fun x U=>AN a8 (vw.1 U).2
 generalize dO S=L at hlen jn⊢
 simp only[ao.enc]
 rw[run_eq ak 125 _ _ Tryz.func125 (by decide+kernel) rfl (show 2≤_ by decide)]
 dsimp only[Tryz.f125]
 simp only[go_sem]
 refine cz (fun i:Nat=>i≤L.length) (fun i=>{t:=ae (ae (ae bH 5 (.int .i64 i)) 2 (.ptr 0 2 0)) 1 (.slc false 1 (L.map aQ)),b:=ae bk 2 (some (ax.box [.slc false 1 (d.accept.map B),.slc false 1 (d.next.map bu)])),o:=[],r:=#[ResultVar.tmp 4],f:=125,n:=20}) (fun i=>some (.bool ((L.drop i).any (bB d)),[])) (fun i=>L.length-i) ?_ 0 (Nat.zero_le _)
 intro i hi ag
 by_cases h:i<L.length
 rotate_left
 ·have aq:¬(i:Int)<L.length:=by omega
  rw[List.drop_eq_nil_of_le (by omega),List.any_nil]
  simp only[go_sem,aq]
 have aq:(i:Int)<L.length:=by omega
 have b1:=cr (n:=i) (by omega)
 have a1:=ag (i+1) (by omega) (by omega)
 rw[List.drop_eq_getElem_cons h,List.any_cons]
 have U:=jn _ (List.getElem_mem h)
 have aW:((L[i]:Nat):Int)<d.accept.length:=by omega
 have eu:∀v:V,(L.map aQ).getD i v=.int .i64 (L[i]:Nat):=fun v=>getD_map h v
 have qx:∀v:V,(d.accept.map B).getD L[i] v=B (bB d L[i]):=fun v=>kH U v
 generalize L[i]=x at*
 generalize bB d x=A at*
 simp only[go_sem,aq]
 rw[arO]
 rotate_left
 ·kernel_rfl
 cases A
 ·simp only[go_sem,aq,aW,eu,qx,b1]
  exact a1
 ·simp only[go_sem,aq,aW,eu,qx]
theorem api (l m:List Nat) (ai:l.length≤1048576) (hm:m.length≤1048576):run ak 29 [.slc false 1 (l.map aQ),.slc false 1 (m.map aQ)] []=some (.bool (decide (l=m)),[]):=by
 have:=apf (l.map fun n:Nat=>(n:Int)) (m.map fun n:Nat=>(n:Int)) (by simpa using ai) (by simpa using hm)
 rw[←vl,←vl]at this
 rw[this]
 congr 3
 rw[Bool.eq_iff_iff,beq_iff_eq,decide_eq_true_iff]
 constructor
 ·intro h
  exact List.map_inj_right (fun x y e=>by exact_mod_cast e) |>.1 h
 ·rintro rfl;rfl
theorem Bh (l:List fh) (x:fh) (ai:l.length≤1048576) (ad:∀y∈l,y.2.1<2^40) (U:x.2.1<2^40):run ak 127 [.slc false 3 (l.map gy),gy x] []=some (.int .i64 (if x∈l then(cm l x:Int)else -1),[]):=by
 generalize cn:(some (V.int .i64 (if x∈l then(cm l x:Int)else -1),[]):Option (V×List (Nat→Option ax)))=cO
 have ex:gy x=.agg [.int .i64 x.1,.slc false 1 ((dO x.2.1).map aQ),.bool x.2.2]:=rfl
 rw[ex]
 rw[run_eq ak 127 _ _ Tryz.func127 (by decide+kernel) rfl (show 2≤_ by decide)]
 dsimp only[Tryz.f127]
 simp only[go_sem]
 refine cz (fun i:Nat=>i≤l.length∧x∉l.take i) (fun i=>{t:=ae (ae (ae bH 5 (.int .i64 i)) 3 (.ptr 0 3 0)) 0 (.slc false 3 (l.map gy)),b:=ae bk 3 (some (ax.box [.int .i64 x.1,.slc false 1 ((dO x.2.1).map aQ),.bool x.2.2])),o:=[],r:=#[ResultVar.tmp 4],f:=127,n:=41}) (fun _=>cO) (fun i=>l.length-i) ?_ 0 ⟨Nat.zero_le _,by simp⟩
 rintro i ⟨hi,aC⟩ ag
 by_cases h:i<l.length
 rotate_left
 ·have aq:¬(i:Int)<l.length:=by omega
  rw[List.take_of_length_le (by omega)]at aC
  rw[if_neg aC]at cn
  subst cn
  simp only[go_sem,aq]
 have aq:(i:Int)<l.length:=by omega
 have b1:=cr (n:=i) (by omega)
 have aA:=ad _ (List.getElem_mem h)
 have tc:=fun e=>Vu (x:=x) h aC e
 have ar5:l[i]=x→x∈l:=fun e=>e▸List.getElem_mem h
 have a1:=fun(aY:¬l[i]=x)=>ag (i+1) ⟨by omega,by
  rw[nz h,List.mem_append,List.mem_singleton]
  rintro (bj | rfl)
  ·exact aC bj
  ·exact aY rfl⟩ (by omega)
 have eu:∀v:V,(l.map gy).getD i v=.agg [.int .i64 l[i].1,.slc false 1 ((dO l[i].2.1).map aQ),.bool l[i].2.2]:=fun v=>getD_map h v
 clear ag
 generalize l[i]=y at*
 have it:=api (dO y.2.1) (dO x.2.1) (by have:=x0 y.2.1;omega) (by have:=x0 x.2.1;omega)
 have apj:=fun e=>Vn aA U e
 have aR:((y.1:Int)==(x.1:Int))=(y.1==x.1):=kh _ _
 generalize Lo:dO y.2.1=Y at*
 generalize bO:dO x.2.1=X at*
 simp only[go_sem,aq]
 rw[arO]
 rotate_left
 ·kernel_rfl
 cases c4:(y.1==x.1)
 ·rw[c4]at aR
  have aY:¬y=x:=by rintro rfl;simp at c4
  simp only[go_sem,aq,eu,aR,b1]
  exact a1 aY
 rw[c4]at aR
 cases cu:(y.2.2==x.2.2)
 ·have aY:¬y=x:=by rintro rfl;simp at cu
  simp only[go_sem,aq,eu,aR,cu,b1]
  exact a1 aY
 by_cases cS:Y=X
 ·have he:y=x:=by
   have J:=eq_of_beq c4
   have aa:=eq_of_beq cu
   have ar:=apj (by rw[cS]at Lo;exact cS)
   exact Prod.ext J (Prod.ext ar aa)
  rw[if_pos (ar5 he),tc he]at cn
  rw[decide_eq_true cS]at it
  subst cn
  simp only[go_sem,aq,eu,aR,cu,it]
 ·have aY:¬y=x:=by
   rintro rfl
   exact cS (Lo.symm.trans bO)
  rw[decide_eq_false cS]at it
  simp only[go_sem,aq,eu,aR,cu,it,b1]
  exact a1 aY
end Go.aB
