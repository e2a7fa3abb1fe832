/- Lines and programs: the reference's, and whole programs. Morphisms applied and words read: the reference's image, the program's state after a string. Words read, the reference's; right quotients. Left quotients, both. Preimages. Shortest words, the program's. -/
import Derived.Test.YtlecddobnippmaaGreatEvY
import Derived.Test.YtlecddobnippmaaGreatEvV
import Derived.Test.YtlecddobnippmaaGreatEvR
import Derived.Test.YtlecddobnippmaaGreatEvW
import Derived.Test.YtlecddobnippmaaGreatEvX
import Derived.Test.YtlecddobnippmaaGreatEvQ
import Derived.Test.YtlecddobnippmaaGreatEvS
set_option linter.unusedVariables false
set_option linter.unusedSimpArgs false
namespace Go.aB
open Go Go.Proofs
set_option maxRecDepth 10000
set_option maxHeartbeats 4000000
theorem apC (l:bQ) (aK:l.text.size≤1048576) (J:l.dM.a.size≤1048576) (aa:l.dM.b.size≤1048576) (ar:l.dM.c.size≤1048576) (aI:ee l.dB.enc≤1048576):run ak 42 [l.enc] []=some (.bool (iJ l),[]):=by
 have cE:=rO l.text (by omega)
 have mX:=Lq l.dM J aa ar
 have p8:=apt l.dB
 have eK:=E9 l.dB aI
 simp only[aU.dv]at p8 eK
 rw[run_eq ak 42 _ _ Tryz.func42 (by decide+kernel) rfl (show 1≤_ by decide)]
 dsimp only[Tryz.f42]
 have fin:∀b,tJ l.dM=b→(decide (l.dM.a.size=0)&&(decide (l.dM.b.size=0)&&decide (l.dM.c.size=0)))=b:=fun b e=>e
 unfold iJ
 generalize m8:tJ l.dM=M at fin⊢
 have fin:=fin M rfl
 by_cases iK:l.kind=1∨l.kind=2
 ·rw[if_pos iK]
  cases hw:isWord l.text
  ·rw[hw]at cE
   rcases iK with k | k<;>simp only[k,go_sem,toList_nil,fin,cE,Bool.and_false,Bool.false_and]
  ·rw[hw]at cE
   by_cases ai:l.text.size≤4
   ·have hJ:(l.text.size:Int)≤4:=by omega
    rw[decide_eq_true ai]
    cases M
    ·rcases iK with k | k<;>simp only[k,go_sem,toList_nil,fin,cE,hJ,Bool.true_and,Bool.false_and,Bool.and_false]
    ·rcases iK with k | k<;>simp only[k,go_sem,toList_nil,fin,cE,hJ,p8,Bool.true_and]
   ·have hJ:¬(l.text.size:Int)≤4:=by omega
    rcases iK with k | k<;>simp only[k,go_sem,toList_nil,fin,cE,hJ,ai,Bool.true_and,Bool.false_and,decide_false]
 rw[if_neg iK]
 have aq:(l.kind==1)=false:=by simpa using fun e=>iK (Or.inl e)
 have aF:(l.kind==2)=false:=by simpa using fun e=>iK (Or.inr e)
 by_cases aW:l.kind=3
 ·rw[if_pos aW]
  simp only[cD.enc]at mX
  cases ja:decide (l.text.size=0)
  ·simp only[aW,go_sem,toList_nil,fin,ja,Bool.false_and,Bool.and_false]
  ·cases hm:hD l.dM
   ·rw[hm]at mX
    simp only[aW,go_sem,toList_nil,fin,ja,mX,Bool.true_and,Bool.false_and,Bool.and_false]
   ·rw[hm]at mX
    simp only[aW,go_sem,toList_nil,fin,ja,mX,p8,Bool.true_and]
 rw[if_neg aW]
 have arX:(l.kind==3)=false:=by simpa using aW
 by_cases ck:l.kind=4
 ·rw[if_pos ck]
  change run ak 59 _ []=some (bz (jS l.dB),[])at eK
  generalize jS l.dB=c at eK⊢
  cases c with
  | none=>
    simp only[bz]at eK
    cases ja:decide (l.text.size=0)
    ·simp only[ck,go_sem,toList_nil,fin,ja,eK,Option.isSome,Bool.false_and,Bool.and_false]
    ·cases M<;>simp only[ck,go_sem,toList_nil,fin,ja,eK,Option.isSome,Bool.true_and,Bool.false_and,Bool.and_false]
  | some e=>
    simp only[bz,e6]at eK
    cases ja:decide (l.text.size=0)
    ·simp only[ck,go_sem,toList_nil,fin,ja,eK,Option.isSome,Bool.false_and,Bool.and_false]
    ·cases M<;>simp only[ck,go_sem,toList_nil,fin,ja,eK,Option.isSome,Bool.true_and,Bool.false_and,Bool.and_true]
 rw[if_neg ck]
 have Fb:(l.kind==4)=false:=by simpa using ck
 simp only[go_sem,toList_nil,fin,aq,aF,arX,Fb]
theorem Ff (ls:List bQ) (ai:ls.length≤1048576) (h:∀l∈ls,kT l):run ak 17 [.agg [.slc false 8 (ls.map bQ.enc)]] []=some (.bool (js ls),[]):=by
 unfold js
 rw[run_eq ak 17 _ _ Tryz.func17 (by decide+kernel) rfl (show 1≤_ by decide)]
 dsimp only[Tryz.f17]
 simp only[go_sem]
 refine cz (fun i:Nat=>i≤ls.length) (fun i=>{t:=ae (ae bH 3 (.int .i64 i)) 1 (.ptr 0 1 0),b:=ae bk 1 (some (ax.box [.slc false 8 (ls.map bQ.enc)])),o:=[],r:=#[ResultVar.tmp 2],f:=17,n:=22}) (fun i=>some (.bool (decide (ls.length≤8)&&(ls.drop i).all iJ),[])) (fun i=>ls.length-i) ?_ 0 (Nat.zero_le _)
 intro i hi ag
 by_cases bj:i<ls.length
 rotate_left
 ·have aq:¬(i:Int)<ls.length:=by omega
  rw[List.drop_eq_nil_of_le (by omega),List.all_nil,Bool.and_true]
  by_cases k:ls.length≤8
  ·have bI:(ls.length:Int)≤8:=by omega
   simp only[go_sem,aq,k,bI,decide_true]
  ·have bI:¬(ls.length:Int)≤8:=by omega
   simp only[go_sem,aq,k,bI,decide_false]
 have aq:(i:Int)<ls.length:=by omega
 have b1:=cr (n:=i) (by omega)
 have a1:=ag (i+1) (by omega) (by omega)
 have U:=h _ (List.getElem_mem bj)
 have gd:=apC ls[i] U.1 U.2.1 U.2.2.1 U.2.2.2.1 U.2.2.2.2
 have eu:∀v:V,(ls.map bQ.enc).getD i v=ls[i].enc:=fun v=>getD_map bj v
 rw[List.drop_eq_getElem_cons bj,List.all_cons]
 generalize iJ ls[i]=A at gd⊢
 generalize ls[i]=l at gd eu
 simp only[bQ.enc]at gd eu
 cases A
 ·simp only[go_sem,aq,eu,gd,Bool.not_false,Bool.false_and,Bool.and_false]
 ·rw[Bool.true_and]
  simp only[go_sem,aq,eu,gd,b1,Bool.not_true]
  exact a1
end Go.aB
namespace Go.aB
open Go Go.Proofs
set_option maxRecDepth 10000
set_option maxHeartbeats 4000000
theorem apD {m:cD} (J:m.a.size≤1048576) (aa:m.b.size≤1048576) (ar:m.c.size≤1048576) (s:ByteArray) {i:Nat} (h:i<s.size):(arV m s i).size≤1048576:=by
 unfold arV
 split
 ·exact J
 split
 ·exact aa
 split
 ·exact ar
 rw[Ap s i h];decide
theorem LC (m:cD) (s:ByteArray) (al:s.size≤9223372036854775806) (J:m.a.size≤1048576) (aa:m.b.size≤1048576) (ar:m.c.size≤1048576):run ak 37 [m.enc,.str s] []=some (.str (kP m s),[]):=by
 rw[run_eq ak 37 _ _ Tryz.func37 (by decide+kernel) rfl (show 2≤_ by decide)]
 dsimp only[Tryz.f37]
 simp only[go_sem]
 refine cz (fun x:Nat×ByteArray=>x.2.size≤1048576) (fun x=>{t:=ae (ae (ae (ae bH 6 (.int .i64 x.1)) 5 (.str x.2)) 2 (.ptr 0 2 0)) 1 (.str s),b:=ae bk 2 (some (ax.box [.str m.a,.str m.b,.str m.c])),o:=[],r:=#[ResultVar.tmp 4],f:=37,n:=45}) (fun x=>some (.str (k6 (arV m s) s x.1 x.2),[])) (fun x=>s.size-x.1) ?_ (0,⟨#[]⟩) (by decide)
 rintro⟨i,out⟩ aj ag
 dsimp only at aj⊢
 by_cases h:i<s.size
 rotate_left
 ·have aq:¬(i:Int)<s.size:=by omega
  rw[rf h]
  simp only[go_sem,aq]
 have aq:(i:Int)<s.size:=by omega
 have w4:((i+1:Nat):Int)≤s.size:=by omega
 have apE:(i:Int)≤((i+1:Nat):Int):=by omega
 have w:=cr (n:=i) (by omega)
 have ad:=apD J aa ar s h
 have a2:¬((out.size+(arV m s i).size:Nat):Int)>9223372036854775807:=by omega
 have CC:s.extract i (i+1)=one s i:=rfl
 rw[vi h]
 have fin:∀(b:ByteArray),arV m s i=b→∀(k:Nat),(k:Int)=((out++b).size:Nat)→True:=fun _ _ _ _=>trivial
 have a1:=ag (i+1,out++arV m s i)
 dsimp only at a1
 generalize bO:arV m s i=X at ad a2 a1⊢
 unfold arV at bO
 by_cases c4:bC s i=97
 ·rw[if_pos c4]at bO
  subst bO
  simp only[go_sem,aq,c4,a2]
  refine qf (fun z=>?_) (fun z=>?_)
  ·rw[if_pos (by omega)]
   simp only[go_sem]
  ·rw[if_neg (by omega)]
   simp only[go_sem,w]
   exact a1 (by omega) (by omega)
 rw[if_neg c4]at bO
 by_cases cu:bC s i=98
 ·rw[if_pos cu]at bO
  subst bO
  simp only[go_sem,aq,c4,cu,a2,Int.reduceEq,Int.reduceBEq]
  refine qf (fun z=>?_) (fun z=>?_)
  ·rw[if_pos (by omega)]
   simp only[go_sem]
  ·rw[if_neg (by omega)]
   simp only[go_sem,w]
   exact a1 (by omega) (by omega)
 rw[if_neg cu]at bO
 by_cases cS:bC s i=99
 ·rw[if_pos cS]at bO
  subst bO
  simp only[go_sem,aq,c4,cu,cS,a2,Int.reduceEq,Int.reduceBEq]
  refine qf (fun z=>?_) (fun z=>?_)
  ·rw[if_pos (by omega)]
   simp only[go_sem]
  ·rw[if_neg (by omega)]
   simp only[go_sem,w]
   exact a1 (by omega) (by omega)
 rw[if_neg cS]at bO
 subst bO
 have d1:(bC s i==97)=false:=by simpa using c4
 have d2:(bC s i==98)=false:=by simpa using cu
 have d3:(bC s i==99)=false:=by simpa using cS
 simp only[go_sem,aq,d1,d2,d3,w,w4,apE,CC,a2]
 refine qf (fun z=>?_) (fun z=>?_)
 ·rw[if_pos (by omega)]
  simp only[go_sem]
 ·rw[if_neg (by omega)]
  simp only[go_sem,w]
  exact a1 (by omega) (by omega)
theorem Fg {c:Int} (h:c=97∨c=98∨c=99) (t:Nat×Nat×Nat):(c=97∧iD c=0∧fi t c=t.1)∨(c=98∧iD c=1∧fi t c=t.2.1)∨(c=99∧iD c=2∧fi t c=t.2.2):=by
 rcases h with rfl | rfl | rfl
 ·exact Or.inl ⟨rfl,rfl,rfl⟩
 ·exact Or.inr (Or.inl ⟨rfl,rfl,rfl⟩)
 ·exact Or.inr (Or.inr ⟨rfl,rfl,rfl⟩)
theorem tK (d:ao) (aw:d.ok) (s:ByteArray) (al:s.size≤9223372036854775806) (ai:dx s) (q:Nat) (aE:q<d.accept.length):run ak 35 [d.enc,.int .i64 q,.str s] []=some (.int .i64 (walk d s q 0),[]):=by
 rw[run_eq ak 35 _ _ Tryz.func35 (by decide+kernel) rfl (show 3≤_ by decide)]
 dsimp only[Tryz.f35]
 simp only[go_sem]
 refine cz (fun x:Nat×Nat=>x.1<d.accept.length) (fun x=>{t:=ae (ae (ae (ae bH 7 (.int .i64 x.2)) 3 (.ptr 0 3 0)) 2 (.str s)) 1 (.int .i64 x.1),b:=ae bk 3 (some (ax.box [.slc false 1 (d.accept.map B),.slc false 1 (d.next.map bu)])),o:=[],r:=#[ResultVar.tmp 6],f:=35,n:=26}) (fun x=>some (.int .i64 (walk d s x.1 x.2),[])) (fun x=>s.size-x.2) ?_ (q,0) aE
 rintro⟨p,i⟩ arM ag
 dsimp only at arM⊢
 by_cases h:i<s.size
 rotate_left
 ·have aq:¬(i:Int)<s.size:=by omega
  rw[fx h]
  simp only[go_sem,aq]
 have aq:(i:Int)<s.size:=by omega
 have w:=cr (n:=i) (by omega)
 have cB:(p:Int)<d.next.length:=by rw[aw.1];omega
 have g1:∀v:V,(d.next.map bu).getD p v=bu (d.aN p):=fun v=>hW (by rw[aw.1];exact arM) v
 have li:=EB (bC s i) (Al s i) (Am s i)
 have a1:=ag (fi (d.aN p) (bC s i),i+1) (x4 aw arM _) (by dsimp only;omega)
 rw[iX h]
 dsimp only at a1
 generalize du:d.aN p=A at g1 a1⊢
 simp only[go_sem,aq]
 rw[arR]
 rotate_left
 ·kernel_rfl
 rcases Fg (AR (ai i h)) A with⟨c,e,n⟩ | ⟨c,e,n⟩ | ⟨c,e,n⟩
 all_goals
  rw[e]at li
  rw[n]at a1⊢
  simp only[go_sem,aq,li,cB,g1,w]
  exact a1
end Go.aB
namespace Go.aB
open Go Go.Proofs
set_option maxRecDepth 10000
set_option maxHeartbeats 4000000
theorem Fh (d:ao) (arL:bG d) (s:ByteArray) (al:s.size≤1048576) (hw:isWord s=true) (q:Nat) (aE:q<d.accept.length):run ak 87 [d.enc,.int .i64 q,.str s] []=some (.tup [.int .i64 (walk d s q 0),.bool true],[]):=by
 have aw:=arL.ok
 have ai:=rz hw
 have hle:=arL.le
 have arW:=arL.pos
 have bR:=yl d.cU (by show d.accept.length≤_;omega) (by show(d.next.map _).length≤_;rw[List.length_map,aw.1];omega) (by
  intro r aI
  obtain⟨t,_,rfl⟩:=List.mem_map.1 aI
  show 3≤1048576;decide)
 rw[ao.jO,arL.valid]at bR
 have cE:=rO s (by omega)
 rw[hw]at cE
 have ii:=vQ (q:Int) 0 ((d.accept.length:Int)-1)
 have cT:IntKind.i64.wrap ((d.accept.length:Int)-1)=(d.accept.length:Int)-1:=hC (by omega) (by omega)
 have mg:(decide ((0:Int)≤q)&&decide ((q:Int)≤(d.accept.length:Int)-1))=true:=by
  rw[Bool.and_eq_true,decide_eq_true_eq,decide_eq_true_eq];omega
 rw[mg]at ii
 simp only[ao.enc]at bR
 rw[run_eq ak 87 _ _ Tryz.func87 (by decide+kernel) rfl (show 3≤_ by decide)]
 dsimp only[Tryz.f87]
 simp only[go_sem,bR,cE,ii,cT,Bool.not_true]
 refine cz (fun x:Nat×Nat=>x.1<d.accept.length) (fun x=>{t:=ae (ae (ae (ae bH 9 (.int .i64 x.2)) 8 (.int .i64 x.1)) 3 (.ptr 0 3 0)) 2 (.str s),b:=ae bk 3 (some (ax.box [.slc false 1 (d.accept.map B),.slc false 1 (d.next.map bu)])),o:=[],r:=#[ResultVar.tmp 6,ResultVar.tmp 7],f:=87,n:=46}) (fun x=>some (.tup [.int .i64 (walk d s x.1 x.2),.bool true],[])) (fun x=>s.size-x.2) ?_ (q,0) aE
 rintro⟨p,i⟩ arM ag
 dsimp only at arM⊢
 by_cases h:i<s.size
 rotate_left
 ·have aq:¬(i:Int)<s.size:=by omega
  rw[fx h]
  simp only[go_sem,aq]
 have aq:(i:Int)<s.size:=by omega
 have w:=cr (n:=i) (by omega)
 have cB:(p:Int)<d.next.length:=by rw[aw.1];omega
 have g1:∀v:V,(d.next.map bu).getD p v=bu (d.aN p):=fun v=>hW (by rw[aw.1];exact arM) v
 have li:=A4 (bC s i)
 have a1:=ag (fi (d.aN p) (bC s i),i+1) (x4 aw arM _) (by dsimp only;omega)
 rw[iX h]
 dsimp only at a1
 generalize du:d.aN p=A at g1 a1⊢
 simp only[go_sem,aq]
 rw[arR]
 rotate_left
 ·kernel_rfl
 rcases Fg (AR (ai i h)) A with⟨c,e,n⟩ | ⟨c,e,n⟩ | ⟨c,e,n⟩
 all_goals
  rw[e]at li
  rw[n]at a1⊢
  simp only[go_sem,aq,li,cB,g1,w]
  exact a1
theorem Fi {α:Type} (f:α→V) {l:List α} (h:l≠[]):gO (l.map f)=.uq 1 (l.map f):=Ax f h
theorem LD (d:ao) (arL:bG d):run ak 91 [d.enc] []=some (d.dX,[]):=by
 have aw:=arL.ok
 have hle:=arL.le
 have arW:=arL.pos
 have aC:=aw.1
 have aT:d.accept.length*1≤140737488355328:=by omega
 unfold ao.dX
 rw[run_eq ak 91 _ _ Tryz.func91 (by decide+kernel) rfl (show 1≤_ by decide)]
 dsimp only[Tryz.f91]
 simp only[go_sem,aT]
 refine cz (fun i:Nat=>i≤d.next.length) (fun i=>{t:=ae (ae (ae (ae bH 4 (.int .i64 i)) 3 (.ptr 0 3 0)) 2 (.ptr 0 2 0)) 1 (.ptr 0 1 0),b:=ae (ae (ae bk 3 (some (ax.box [.uq 1 (d.accept.map B),gO ((d.next.take i).map gP)]))) 2 (some (ax.box [.slc true 1 [],.slc true 1 []]))) 1 (some (ax.box [.slc false 1 (d.accept.map B),.slc false 1 (d.next.map bu)])),o:=[],r:=#[ResultVar.cell 2 31],f:=91,n:=30}) (fun _=>some (.agg [.uq 1 (d.accept.map B),.uq 1 (d.next.map gP)],[])) (fun i=>d.next.length-i) ?_ 0 (Nat.zero_le _)
 intro i hi ag
 by_cases h:i<d.next.length
 rotate_left
 ·have aq:¬(i:Int)<d.next.length:=by omega
  rw[List.take_of_length_le (by omega),Fi _ (fun e=>by rw[e]at aC;simp at aC;omega)]
  simp only[go_sem,aq]
 have aq:(i:Int)<d.next.length:=by omega
 have w:=cr (n:=i) (by omega)
 have a1:=ag (i+1) (by omega) (by omega)
 rw[Fi _ (fun e=>by have:=congrArg List.length e;rw[List.length_take,List.length_nil]at this;omega),nz h,List.map_append,List.map_cons,List.map_nil]at a1
 have av:∀v:V,(d.next.map bu).getD i v=bu d.next[i]:=fun v=>getD_map h v
 generalize d.next[i]=t at av a1
 have a2:(min i d.next.length+1)*24≤140737488355328:=by omega
 simp only[go_sem,aq]
 rw[arR]
 rotate_left
 ·kernel_rfl
 by_cases vV:i=0
 ·have ja:d.next.take i=[]:=by rw[vV];rfl
  have EF:gO (([]:List (Nat×Nat×Nat)).map gP)=.slc true 1 []:=rfl
  have c8:((0:Nat)+1)*24≤140737488355328:=by decide
  rw[ja]at a1⊢
  rw[EF]
  simp only[List.map_nil,List.nil_append]at a1
  simp only[go_sem,still,aq,av,a2,c8,eq_self,w]
  exact a1
 ·have vP:d.next.take i≠[]:=fun e=>by
   have:=congrArg List.length e
   rw[List.length_take,List.length_nil]at this
   omega
  rw[Fi _ vP]
  simp only[go_sem,still,aq,av,a2,eq_self,w]
  exact a1
section
attribute [-go_sem] fA Ef vD
theorem apF (x:eQ) (s:ByteArray) (J:x.accept.length≤1048576) (aa:x.next.length≤1048576) (ar:∀r∈x.next,r.length≤1048576) (al:s.size≤1048576):run ak 57 [x.enc,.str s] []=some (vE x s,[]):=by
 have bR:=yl x J aa ar
 have cE:=rO s (by omega)
 simp only[eQ.enc]at bR
 unfold vE
 rw[run_eq ak 57 _ _ Tryz.func57 (by decide+kernel) rfl (show 2≤_ by decide)]
 dsimp only[Tryz.f57]
 cases fR:iR x
 ·rw[fR]at bR
  rw[if_neg (by simp)]
  simp only[go_sem,bR,Bool.not_false]
 cases hw:isWord s
 ·rw[fR]at bR
  rw[hw]at cE
  rw[if_neg (by simp)]
  simp only[go_sem,bR,cE,Bool.not_true,Bool.not_false]
 rw[fR]at bR
 rw[hw]at cE
 rw[if_pos ⟨rfl,rfl⟩]
 obtain⟨U,arL⟩:=vC fR
 generalize x.gx=d at U arL⊢
 subst U
 have hle:=arL.le
 have arW:=arL.pos
 have aR:d.cU.accept=d.accept:=rfl
 have a7:d.cU.next.map eE=d.next.map bu:=by unfold ao.cU;rw[List.map_map];rfl
 rw[aR,a7]at bR
 rw[ao.jO]
 have hf:=LD d arL
 simp only[ao.enc,ao.dX]at hf
 have du:d.accept≠[]:=fun e=>by rw[e]at arW;exact absurd arW (by decide)
 have yC:(d.accept.length=0)=False:=eq_false (by omega)
 have qE:d.cU.next.length=d.accept.length:=by show(d.next.map _).length=_;rw[List.length_map,arL.ok.1]
 have rN:d.cU.next.map List.length≠[]:=fun e=>by have:=congrArg List.length e;rw[List.length_map,qE,List.length_nil]at this;omega
 have Fj:d.cU.next≠[]:=fun e=>by rw[e]at qE;exact absurd qE (by simp only[List.length_nil];omega)
 have Fk:d.cU.next.map fg=d.next.map gP:=by show(d.next.map _).map fg=_;rw[List.map_map];rfl
 simp only[go_sem,bR,cE,hf,Bool.not_true]
 generalize eO:(ae (ae (ae bk 2 _) 4 _) 6 _:Nat→Option ax)=cw
 have cT:mc cw 430:=eO▸(((mc.bk _).st (by decide) _).st (by decide) _).st (by decide) _
 have f0:∀t,jY [431] t=true→cw t=none:=fun t aK=>by
  rw[←eO,tm (by decide) _ aK,tm (by decide) _ aK,tm (by decide) _ aK]
  rfl
 have bq:=congrFun eO.symm 2
 have gI:=congrFun eO.symm 4
 have qF:=congrFun eO.symm 6
 simp only[go_sem]at bq gI qF
 clear eO
 obtain⟨bU,tL,dK,hL,rP⟩:=JS cw 430 d.accept d.cU.next cT f0 (by decide)
 simp only[gp,yC,if_false,qE,Fk]at tL
 rw[tL]
 clear tL
 replace bq:=hL.lo (by decide) bq
 replace gI:=hL.lo (by decide) gI
 replace qF:=hL.lo (by decide) qF
 have LF:=dK.acc du
 have apG:=dK.dir Fj
 clear cT f0 hL
 have Fl:∀t o r f n H c,tY ⟨t,ae bU 6 c,o,r,f,n⟩ H [431]:=fun t o r f n H c=>(rP.st (by decide) c).AU t o r f n H
 have Fm:∀c g,eS [431] (ae bU 6 c) g=eS [431] (eI 431 d.cU.next 0 bk) g:=fun c g=>(rP.st (by decide) c).x8 g
 have si:d.accept.map B=(ma d s 0).map B:=by rw[VS]
 rw[si]at LF
 simp only[go_sem,bq,gI,qF,LF,apG,Fl,Fm]
 refine(cz (fun i:Nat=>i≤d.accept.length) (fun i=>{t:=ae (ae (ae (ae (ae bH 7 (.int .i64 i)) 6 (.ptr 0 6 0)) 4 (.ptr 0 4 0)) 2 (.ptr 0 2 0)) 1 (.str s),b:=eS [431] (eI 431 d.cU.next 0 bk) (ae (ae (ae (ae (ae bk 431 (some (ax.dir 1 (ih 0 431 (d.cU.next.map List.length))))) 430 (some (ax.arr false 1 ((ma d s i).map B)))) 6 (some (ax.box [.bS 0 430 d.accept.length,.bS 0 431 d.accept.length]))) 4 (some (ax.box [.slc true 1 [],.slc true 1 []]))) 2 (some (ax.box [.slc false 1 (d.accept.map B),.slc false 1 (d.next.map bu)]))),o:=[],r:=#[ResultVar.cell 4 31,ResultVar.tmp 5],f:=57,n:=46}) (fun _=>some (.tup [(cF (hX d s) 0).dX,.bool true],[])) (fun i=>d.accept.length-i) ?_ 0 (Nat.zero_le _))
 intro i hi ag
 by_cases h:i<d.accept.length
 rotate_left
 ·have aq:¬(i:Int)<d.accept.length:=by omega
  obtain rfl:i=d.accept.length:=by omega
  have lm:=vT (hX d s) (x5 arL.ok s) (by rw[qm];omega) (by rw[qm];omega)
  rw[vo (x5 arL.ok s) (by rw[qm];omega)]at lm
  have kp:(hX d s).next=d.next:=rfl
  simp only[ao.enc]at lm
  rw[kp,←VT]at lm
  generalize cF (hX d s) 0=Q at*
  simp only[ao.dX]at lm⊢
  have kS:=x6 d s d.accept.length
  have iA:=fun g (aO:g 430=some (.arr false 1 ((ma d s d.accept.length).map B))) (aw:g 431=some (.dir 1 (ih 0 431 (d.cU.next.map List.length)))) t r f n=>JN (JT (u:=430) (A:=ma d s d.accept.length) (rows:=d.cU.next) (g:=g) (by decide) (fun _=>aO) (fun _=>aw)) t r f n
  have yD:=fun g aO aw t r f n=>(iA g aO aw t r f n).1
  have yE:=fun g aO aw t r f n=>(iA g aO aw t r f n).2
  simp only[eH,kS,yC,qE,if_false,a7]at yD yE
  simp only[go_sem,aq,kS,yD,yE,lm]
 have aq:(i:Int)<d.accept.length:=by omega
 have w:=cr (n:=i) (by omega)
 have a1:=ag (i+1) (by omega) (by omega)
 rw[←VU d s h]at a1
 have rd:=Fh d arL s al hw i h
 simp only[ao.enc]at rd
 have mT:=mQ arL.ok s _ i 0 (Nat.le_refl _) h
 have hZ:∀v:V,(d.accept.map B).getD (walk d s i 0) v=B (rA d s i):=fun v=>kH mT v
 have kw:((walk d s i 0:Nat):Int)<d.accept.length:=by omega
 have kS:=x6 d s i
 simp only[go_sem,aq,rd]
 rw[arR]
 rotate_left
 ·kernel_rfl
 simp only[go_sem,still,aq,h,kw,hZ,kS,eq_self,w]
 exact a1
end
theorem apH (x:eQ) (s:ByteArray) (J:x.accept.length≤1048576) (aa:x.next.length≤1048576) (ar:∀r∈x.next,r.length≤1048576) (al:s.size≤1048576):run ak 22 [x.enc,.str s] []=some (vE x s,[]):=by
 have bR:=vR x J aa ar
 have cE:=oN s (by omega)
 simp only[eQ.enc]at bR
 unfold vE
 rw[run_eq ak 22 _ _ Tryz.func22 (by decide+kernel) rfl (show 2≤_ by decide)]
 dsimp only[Tryz.f22]
 cases fR:iR x
 ·rw[fR]at bR
  rw[if_neg (by simp)]
  simp only[go_sem,bR,Bool.not_false]
 cases hw:isWord s
 ·rw[fR]at bR
  rw[hw]at cE
  rw[if_neg (by simp)]
  simp only[go_sem,bR,cE,Bool.not_true,Bool.not_false]
 rw[fR]at bR
 rw[hw]at cE
 rw[if_pos ⟨rfl,rfl⟩]
 obtain⟨U,arL⟩:=vC fR
 generalize x.gx=d at U arL⊢
 subst U
 have hle:=arL.le
 have arW:=arL.pos
 have ai:=rz hw
 have aR:d.cU.accept=d.accept:=rfl
 have a7:d.cU.next.map eE=d.next.map bu:=by unfold ao.cU;rw[List.map_map];rfl
 rw[aR,a7]at bR
 rw[ao.jO]
 simp only[go_sem,bR,cE,Bool.not_true]
 refine(cz (fun i:Nat=>i≤d.accept.length) (fun i=>{t:=ae (ae (ae (ae (ae (ae bH 23 (.int .i64 i)) 22 (.int .i64 d.accept.length)) 6 (.ptr 0 6 0)) 4 (.ptr 0 4 0)) 2 (.ptr 0 2 0)) 1 (.str s),b:=ae (ae (ae bk 6 (some (ax.box [.slc true 1 (((List.range i).map (rA d s)).map B),.slc false 1 (d.next.map bu)]))) 4 (some (ax.box [.slc true 1 [],.slc true 1 []]))) 2 (some (ax.box [.slc false 1 (d.accept.map B),.slc false 1 (d.next.map bu)])),o:=[],r:=#[ResultVar.cell 4 31,ResultVar.tmp 5],f:=22,n:=42}) (fun _=>some (.tup [(cF (hX d s) 0).dX,.bool true],[])) (fun i=>d.accept.length-i) ?_ 0 (Nat.zero_le _))
 intro i hi ag
 by_cases h:i<d.accept.length
 rotate_left
 ·have aq:¬(i:Int)<d.accept.length:=by omega
  obtain rfl:i=d.accept.length:=by omega
  have lm:=vW (hX d s) (x5 arL.ok s) (by rw[qm];omega) 0 (by rw[qm];omega)
  have kp:(hX d s).next=d.next:=rfl
  have kn:(hX d s).accept=(List.range d.accept.length).map (rA d s):=rfl
  have z0:((0:Nat):Int)=0:=rfl
  simp only[ao.enc]at lm
  rw[kp,kn,z0]at lm
  generalize cF (hX d s) 0=Q at*
  simp only[ao.dX]at lm⊢
  simp only[go_sem,aq,lm]
 have aq:(i:Int)<d.accept.length:=by omega
 have w:=cr (n:=i) (by omega)
 have a1:=ag (i+1) (by omega) (by omega)
 rw[List.range_succ,List.map_append,List.map_append,List.map_cons,List.map_nil,List.map_cons,List.map_nil]at a1
 have rd:=tK d arL.ok s (by omega) ai i h
 simp only[ao.enc]at rd
 have mT:=mQ arL.ok s _ i 0 (Nat.le_refl _) h
 have hZ:∀v:V,(d.accept.map B).getD (walk d s i 0) v=B (rA d s i):=fun v=>kH mT v
 have kw:((walk d s i 0:Nat):Int)<d.accept.length:=by omega
 have a2:((List.range i).length+1)*1≤140737488355328:=by rw[List.length_range];omega
 simp only[go_sem,aq,w]
 rw[arR]
 rotate_left
 ·kernel_rfl
 simp only[go_sem,still,rd,h,kw,hZ,a2,eq_self,w]
 exact a1
end Go.aB
namespace Go.aB
open Go Go.Proofs
set_option maxRecDepth 10000
set_option maxHeartbeats 4000000
theorem apI (x:eQ) (s:ByteArray) (J:x.accept.length≤1048576) (aa:x.next.length≤1048576) (ar:∀r∈x.next,r.length≤1048576) (al:s.size≤1048576) (arL:¬(iR x=true∧isWord s=true)) (q:Nat):run ak 87 [x.enc,.int .i64 q,.str s] []=some (.tup [.int .i64 0,.bool false],[]):=by
 have bR:=yl x J aa ar
 have cE:=rO s (by omega)
 have ii:=vQ (q:Int) 0 ((x.accept.length:Int)-1)
 have cT:IntKind.i64.wrap ((x.accept.length:Int)-1)=(x.accept.length:Int)-1:=hC (by omega) (by omega)
 simp only[eQ.enc]at bR
 rw[run_eq ak 87 _ _ Tryz.func87 (by decide+kernel) rfl (show 3≤_ by decide)]
 dsimp only[Tryz.f87]
 cases fR:iR x
 ·rw[fR]at bR
  simp only[go_sem,bR,Bool.not_false]
 rw[fR]at bR
 have hw:isWord s=false:=by
  cases h:isWord s
  ·rfl
  ·exact absurd ⟨fR,h⟩ arL
 rw[hw]at cE
 generalize (decide ((0:Int)≤q)&&decide ((q:Int)≤(x.accept.length:Int)-1))=c at ii
 cases c
 ·simp only[go_sem,bR,cE,ii,cT,Bool.not_true,Bool.not_false]
 ·simp only[go_sem,bR,cE,ii,cT,Bool.not_true,Bool.not_false]
theorem LG (q i:Nat):run ak 112 [.int .i64 q,.int .i64 i] []=some (.int .i64 (arN q i),[]):=by
 rw[run_eq ak 112 _ _ Tryz.func112 (by decide+kernel) rfl (show 2≤_ by decide)]
 dsimp only[Tryz.f112]
 unfold arN
 by_cases h:i=0
 ·subst h
  rw[if_pos rfl]
  have mg:((0:Nat):Int)=0:=rfl
  simp only[go_sem,mg]
 have J:((i:Int)==0)=false:=by simpa using h
 rw[if_neg h]
 by_cases aE:i=q
 ·subst aE
  rw[if_pos rfl]
  have mg:((0:Nat):Int)=0:=rfl
  simp only[go_sem,J,mg,beq_self_eq_true]
 ·have aa:((i:Int)==(q:Int))=false:=by rw[kh];simpa using aE
  rw[if_neg aE]
  simp only[go_sem,J,aa]
theorem apJ (d:ao) (arL:bG d) (q:Nat) (aE:q<d.accept.length):run ak 89 [d.enc,.int .i64 q] []=some ((fp d q).enc,[]):=by
 have aw:=arL.ok
 have hle:=arL.le
 have aC:=aw.1
 generalize cn:(some ((fp d q).enc,([]:List (Nat→Option ax))))=cO
 rw[run_eq ak 89 _ _ Tryz.func89 (by decide+kernel) rfl (show 2≤_ by decide)]
 dsimp only[Tryz.f89]
 simp only[go_sem]
 refine cz (fun i:Nat=>i≤d.accept.length) (fun i=>{t:=ae (ae (ae (ae (ae bH 6 (.int .i64 i)) 5 (.ptr 0 5 0)) 4 (.ptr 0 4 0)) 2 (.ptr 0 2 0)) 1 (.int .i64 q),b:=ae (ae (ae bk 5 (some (ax.box [.slc true 1 (((List.range i).map fun i=>bB d (arN q i)).map B),.slc true 1 (((List.range i).map fun i=>kQ q (d.aN (arN q i))).map bu)]))) 4 (some (ax.box [.slc true 1 [],.slc true 1 []]))) 2 (some (ax.box [.slc false 1 (d.accept.map B),.slc false 1 (d.next.map bu)])),o:=[],r:=#[ResultVar.cell 4 31],f:=89,n:=56}) (fun _=>cO) (fun i=>d.accept.length-i) ?_ 0 (Nat.zero_le _)
 intro i hi ag
 by_cases h:i<d.accept.length
 rotate_left
 ·have aq:¬(i:Int)<d.accept.length:=by omega
  obtain rfl:i=d.accept.length:=by omega
  rw[←cn]
  simp only[go_sem,aq]
  rfl
 have aq:(i:Int)<d.accept.length:=by omega
 have w:=cr (n:=i) (by omega)
 have a1:=ag (i+1) (by omega) (by omega)
 clear ag
 rw[List.range_succ,List.map_append,List.map_append,List.map_cons,List.map_nil,List.map_cons,List.map_nil,List.map_append,List.map_append,List.map_cons,List.map_nil,List.map_cons,List.map_nil]at a1
 have al:=ln aE h
 have s1:=LG q i
 have hZ:∀v:V,(d.accept.map B).getD (arN q i) v=B (bB d (arN q i)):=fun v=>kH al v
 have k0:∀v:V,(d.next.map bu).getD (arN q i) v=bu (d.aN (arN q i)):=fun v=>hW (by omega) v
 have ka:((arN q i:Nat):Int)<d.accept.length:=by omega
 have eY:((arN q i:Nat):Int)<d.next.length:=by omega
 have aI:(List.range i).length=i:=List.length_range
 have arv:((List.range i).map fun i=>bB d (arN q i)).length=i:=by rw[List.length_map,aI]
 have KU:((List.range i).map fun i=>kQ q (d.aN (arN q i))).length=i:=by rw[List.length_map,aI]
 generalize (List.range i).map (fun i=>bB d (arN q i))=LH at*
 generalize (List.range i).map (fun i=>kQ q (d.aN (arN q i)))=LI at*
 generalize bB d (arN q i)=ac at*
 generalize d.aN (arN q i)=aS at*
 simp only[go_sem,aq]
 refine cz (fun j:Nat=>j≤3) (fun j=>{t:=ae (ae (ae (ae (ae (ae (ae bH 8 (.int .i64 j)) 7 (.slc true 1 (((dp (kQ q aS)).take j).map aQ))) 6 (.int .i64 i)) 5 (.ptr 0 5 0)) 4 (.ptr 0 4 0)) 2 (.ptr 0 2 0)) 1 (.int .i64 q),b:=ae (ae (ae bk 5 (some (ax.box [.slc true 1 (LH.map B),.slc true 1 (LI.map bu)]))) 4 (some (ax.box [.slc true 1 [],.slc true 1 []]))) 2 (some (ax.box [.slc false 1 (d.accept.map B),.slc false 1 (d.next.map bu)])),o:=[],r:=#[ResultVar.cell 4 31],f:=89,n:=56}) (fun _=>cO) (fun j=>3-j) ?_ 0 (Nat.zero_le _)
 intro j au lA
 by_cases aZ:j<3
 rotate_left
 ·obtain rfl:j=3:=by omega
  have aW:¬((3:Nat):Int)<3:=by omega
  have vN:((dp (kQ q aS)).take 3).map aQ=[.int .i64 (kQ q aS).1,.int .i64 (kQ q aS).2.1,.int .i64 (kQ q aS).2.2]:=rfl
  have aT:(LH.length+1)*1≤140737488355328:=by omega
  have a2:(LI.length+1)*24≤140737488355328:=by omega
  rw[vN]
  simp only[go_sem,aW]
  rw[arR]
  rotate_left
  ·kernel_rfl
  simp only[go_sem,still,s1,ka,hZ,aT,a2,eq_self,w]
  exact a1
 have aF:(j:Int)<3:=by omega
 have aW:(j:Int)<(dp aS).length:=by rw[iH];omega
 have fX:=cr (n:=j) (by omega)
 have oc:∀v:V,((dp aS).map aQ).getD j v=aQ (dp aS)[j]:=fun v=>getD_map (by rw[iH];exact aZ) v
 have uN:(dp aS).map aQ=[.int .i64 aS.1,.int .i64 aS.2.1,.int .i64 aS.2.2]:=rfl
 have cp:=lA (j+1) (by omega) (by omega)
 rw[nz (by rw[iH];exact aZ),List.map_append,List.map_cons,List.map_nil]at cp
 have apK:(dp (kQ q aS))[j]'(by rw[iH];exact aZ)=arN q ((dp aS)[j]'(by rw[iH];exact aZ)):=by
  rcases j with _ | _ | _ | j
  ·rfl
  ·rfl
  ·rfl
  ·omega
 rw[apK]at cp
 have s2:=LG q ((dp aS)[j]'(by rw[iH];exact aZ))
 rw[uN]at oc
 generalize (dp aS)[j]=p at*
 have kt:(((dp (kQ q aS)).take j).map aQ).length=j:=by rw[List.length_map,List.length_take,iH];omega
 generalize ((dp (kQ q aS)).take j).map aQ=LT at*
 have aT:(LT.length+1)*8≤140737488355328:=by omega
 simp only[go_sem,aF]
 rw[arR]
 rotate_left
 ·kernel_rfl
 simp only[go_sem,still,s1,eY,k0,aF,oc,s2,aT,eq_self,fX]
 exact cp
theorem apL (x:eQ) (s:ByteArray) (J:x.accept.length≤1048576) (aa:x.next.length≤1048576) (ar:∀r∈x.next,r.length≤1048576) (al:s.size≤1048576):run ak 56 [x.enc,.str s] []=some (vI x s,[]):=by
 unfold vI
 rw[run_eq ak 56 _ _ Tryz.func56 (by decide+kernel) rfl (show 2≤_ by decide)]
 dsimp only[Tryz.f56]
 by_cases arL:iR x=true∧isWord s=true
 rotate_left
 ·have rd:=apI x s J aa ar al arL 0
  simp only[eQ.enc]at rd
  rw[if_neg arL]
  have z0:((0:Nat):Int)=0:=rfl
  rw[z0]at rd
  simp only[go_sem,rd,Bool.not_false]
 rw[if_pos arL]
 obtain⟨U,aw⟩:=vC arL.1
 have hw:=arL.2
 generalize x.gx=d at U aw⊢
 subst U
 have hle:=aw.le
 have arW:=aw.pos
 rw[ao.jO]
 have rd:=Fh d aw s al hw 0 (by omega)
 have mT:=mQ aw.ok s _ 0 0 (Nat.le_refl _) aw.pos
 generalize walk d s 0 0=q at*
 have cC:=apJ d aw q mT
 have lm:=vT (fp d q) (AV aw.ok mT) (by rw[pG];omega) (by rw[pG];omega)
 rw[vo (AV aw.ok mT) (by rw[pG];omega),WT aw.ok mT]at lm
 generalize cF d q=Q at*
 generalize fp d q=F at*
 have z0:((0:Nat):Int)=0:=rfl
 simp only[ao.enc,ao.dX,z0]at rd cC lm⊢
 simp only[go_sem,rd,cC,lm,Bool.not_true]
theorem apM (x:eQ) (s:ByteArray) (J:x.accept.length≤1048576) (aa:x.next.length≤1048576) (ar:∀r∈x.next,r.length≤1048576) (al:s.size≤1048576):run ak 21 [x.enc,.str s] []=some (vI x s,[]):=by
 have bR:=vR x J aa ar
 have cE:=oN s (by omega)
 simp only[eQ.enc]at bR
 unfold vI
 rw[run_eq ak 21 _ _ Tryz.func21 (by decide+kernel) rfl (show 2≤_ by decide)]
 dsimp only[Tryz.f21]
 cases fR:iR x
 ·rw[fR]at bR
  rw[if_neg (by simp)]
  simp only[go_sem,bR,Bool.not_false]
 cases hw:isWord s
 ·rw[fR]at bR
  rw[hw]at cE
  rw[if_neg (by simp)]
  simp only[go_sem,bR,cE,Bool.not_true,Bool.not_false]
 rw[fR]at bR
 rw[hw]at cE
 rw[if_pos ⟨rfl,rfl⟩]
 obtain⟨U,arL⟩:=vC fR
 generalize x.gx=d at U arL⊢
 subst U
 have hle:=arL.le
 have arW:=arL.pos
 have ai:=rz hw
 have aR:d.cU.accept=d.accept:=rfl
 have a7:d.cU.next.map eE=d.next.map bu:=by unfold ao.cU;rw[List.map_map];rfl
 rw[aR,a7]at bR
 rw[ao.jO]
 have rd:=tK d arL.ok s (by omega) ai 0 arL.pos
 have mT:=mQ arL.ok s _ 0 0 (Nat.le_refl _) arL.pos
 generalize walk d s 0 0=q at*
 have lm:=vW d arL.ok (by omega) q mT
 generalize cF d q=Q at*
 have z0:((0:Nat):Int)=0:=rfl
 simp only[ao.enc,ao.dX,z0]at rd lm⊢
 simp only[go_sem,bR,cE,Bool.not_true]
 rw[arR]
 rotate_left
 ·kernel_rfl
 simp only[go_sem,still,rd,lm,eq_self]
end Go.aB
namespace Go.aB
open Go Go.Proofs
set_option maxRecDepth 10000
set_option maxHeartbeats 4000000
theorem apN (x:eQ) (m:cD) (J:x.accept.length≤1048576) (aa:x.next.length≤1048576) (ar:∀r∈x.next,r.length≤1048576) (aO:m.a.size≤1048576) (ad:m.b.size≤1048576) (ah:m.c.size≤1048576):run ak 23 [x.enc,m.enc] []=some (vK x m,[]):=by
 have bR:=vR x J aa ar
 have cE:=Lr m aO ad ah
 simp only[eQ.enc,cD.enc]at bR cE
 unfold vK
 rw[run_eq ak 23 _ _ Tryz.func23 (by decide+kernel) rfl (show 2≤_ by decide)]
 dsimp only[Tryz.f23]
 simp only[cD.enc]
 cases fR:iR x
 ·rw[fR]at bR
  rw[if_neg (by simp)]
  simp only[go_sem,bR,Bool.not_false]
 cases hw:hD m
 ·rw[fR]at bR
  rw[hw]at cE
  rw[if_neg (by simp)]
  simp only[go_sem,bR,cE,Bool.not_true,Bool.not_false]
 rw[fR]at bR
 rw[hw]at cE
 rw[if_pos ⟨rfl,rfl⟩]
 obtain⟨U,arL⟩:=vC fR
 generalize x.gx=d at U arL⊢
 subst U
 have hle:=arL.le
 have arW:=arL.pos
 obtain⟨⟨xn,ks⟩,⟨oR,E2⟩,⟨lc,sc⟩⟩:=vB hw
 have aR:d.cU.accept=d.accept:=rfl
 have a7:d.cU.next.map eE=d.next.map bu:=by unfold ao.cU;rw[List.map_map];rfl
 rw[aR,a7]at bR
 rw[ao.jO]
 simp only[go_sem,bR,cE,Bool.not_true]
 refine(cz (fun i:Nat=>i≤d.accept.length) (fun i=>{t:=ae (ae (ae (ae (ae (ae bH 23 (.int .i64 i)) 22 (.int .i64 d.accept.length)) 6 (.ptr 0 6 0)) 4 (.ptr 0 4 0)) 3 (.ptr 0 3 0)) 2 (.ptr 0 2 0),b:=ae (ae (ae (ae bk 6 (some (ax.box [.slc false 1 (d.accept.map B),.slc true 1 (((List.range i).map (hj d m)).map bu)]))) 4 (some (ax.box [.slc true 1 [],.slc true 1 []]))) 3 (some (ax.box [.str m.a,.str m.b,.str m.c]))) 2 (some (ax.box [.slc false 1 (d.accept.map B),.slc false 1 (d.next.map bu)])),o:=[],r:=#[ResultVar.cell 4 31,ResultVar.tmp 5],f:=23,n:=50}) (fun _=>some (.tup [(cF (fQ d m) 0).dX,.bool true],[])) (fun i=>d.accept.length-i) ?_ 0 (Nat.zero_le _))
 intro i hi ag
 by_cases h:i<d.accept.length
 rotate_left
 ·have aq:¬(i:Int)<d.accept.length:=by omega
  obtain rfl:i=d.accept.length:=by omega
  have tM:=yb arL m
  have lm:=vW (fQ d m) tM.ok (by show d.accept.length≤_;omega) 0 tM.pos
  have kp:(fQ d m).next=(List.range d.accept.length).map (hj d m):=rfl
  have kn:(fQ d m).accept=d.accept:=rfl
  have z0:((0:Nat):Int)=0:=rfl
  simp only[ao.enc]at lm
  rw[kp,kn,z0]at lm
  generalize cF (fQ d m) 0=Q at*
  simp only[ao.dX]at lm⊢
  simp only[go_sem,aq,lm]
 have aq:(i:Int)<d.accept.length:=by omega
 have w:=cr (n:=i) (by omega)
 have a1:=ag (i+1) (by omega) (by omega)
 rw[List.range_succ,List.map_append,List.map_append,List.map_cons,List.map_nil,List.map_cons,List.map_nil]at a1
 have rP:=tK d arL.ok m.a (by omega) xn i h
 have Fo:=tK d arL.ok m.b (by omega) oR i h
 have rc:=tK d arL.ok m.c (by omega) lc i h
 simp only[ao.enc]at rP Fo rc
 have a2:((List.range i).length+1)*24≤140737488355328:=by rw[List.length_range];omega
 have a6:bu (hj d m i)=.slc false 1 [.int .i64 (walk d m.a i 0),.int .i64 (walk d m.b i 0),.int .i64 (walk d m.c i 0)]:=rfl
 rw[a6]at a1
 simp only[go_sem,aq,w]
 rw[arR]
 rotate_left
 ·kernel_rfl
 simp only[go_sem,still,rP,Fo,rc,h,a2,eq_self,w]
 exact a1
section
attribute [-go_sem] fA Ef vD
theorem apO (x:eQ) (m:cD) (J:x.accept.length≤1048576) (aa:x.next.length≤1048576) (ar:∀r∈x.next,r.length≤1048576) (aO:m.a.size≤1048576) (ad:m.b.size≤1048576) (ah:m.c.size≤1048576):run ak 58 [x.enc,m.enc] []=some (vK x m,[]):=by
 have bR:=yl x J aa ar
 have cE:=Lq m aO ad ah
 simp only[eQ.enc,cD.enc]at bR cE
 unfold vK
 rw[run_eq ak 58 _ _ Tryz.func58 (by decide+kernel) rfl (show 2≤_ by decide)]
 dsimp only[Tryz.f58]
 simp only[cD.enc]
 cases fR:iR x
 ·rw[fR]at bR
  rw[if_neg (by simp)]
  simp only[go_sem,bR,Bool.not_false]
 cases hw:hD m
 ·rw[fR]at bR
  rw[hw]at cE
  rw[if_neg (by simp)]
  simp only[go_sem,bR,cE,Bool.not_true,Bool.not_false]
 rw[fR]at bR
 rw[hw]at cE
 rw[if_pos ⟨rfl,rfl⟩]
 obtain⟨U,arL⟩:=vC fR
 generalize x.gx=d at U arL⊢
 subst U
 have hle:=arL.le
 have arW:=arL.pos
 obtain⟨⟨xn,ks⟩,⟨oR,E2⟩,⟨lc,sc⟩⟩:=vB hw
 have aR:d.cU.accept=d.accept:=rfl
 have a7:d.cU.next.map eE=d.next.map bu:=by unfold ao.cU;rw[List.map_map];rfl
 rw[aR,a7]at bR
 rw[ao.jO]
 have hf:=LD d arL
 simp only[ao.enc,ao.dX]at hf
 have du:d.accept≠[]:=fun e=>by rw[e]at arW;exact absurd arW (by decide)
 have yC:(d.accept.length=0)=False:=eq_false (by omega)
 have qE:d.cU.next.length=d.accept.length:=by show(d.next.map _).length=_;rw[List.length_map,arL.ok.1]
 have Fj:d.cU.next≠[]:=fun e=>by rw[e]at qE;exact absurd qE (by simp only[List.length_nil];omega)
 have Fk:d.cU.next.map fg=d.next.map gP:=by show(d.next.map _).map fg=_;rw[List.map_map];rfl
 simp only[go_sem,bR,cE,hf,Bool.not_true]
 generalize eO:(ae (ae (ae (ae bk 2 _) 3 _) 4 _) 6 _:Nat→Option ax)=cw
 have cT:mc cw 439:=eO▸((((mc.bk _).st (by decide) _).st (by decide) _).st (by decide) _).st (by decide) _
 have f0:∀t,jY [440] t=true→cw t=none:=fun t aK=>by
  rw[←eO,tm (by decide) _ aK,tm (by decide) _ aK,tm (by decide) _ aK,tm (by decide) _ aK]
  rfl
 have bq:=congrFun eO.symm 2
 have cN:=congrFun eO.symm 3
 have gI:=congrFun eO.symm 4
 have qF:=congrFun eO.symm 6
 simp only[go_sem]at bq cN gI qF
 clear eO
 obtain⟨bU,tL,dK,hL,rP⟩:=JS cw 439 d.accept d.cU.next cT f0 (by decide)
 simp only[gp,yC,if_false,qE,Fk]at tL
 rw[tL]
 clear tL
 replace bq:=hL.lo (by decide) bq
 replace cN:=hL.lo (by decide) cN
 replace gI:=hL.lo (by decide) gI
 replace qF:=hL.lo (by decide) qF
 have apP:=dK.acc du
 have Fp:=dK.dir Fj
 clear cT f0 hL
 have Fl:∀t o r f n H c,tY ⟨t,ae bU 6 c,o,r,f,n⟩ H [440]:=fun t o r f n H c=>(rP.st (by decide) c).AU t o r f n H
 have Fm:∀c g,eS [440] (ae bU 6 c) g=eS [440] (eI 440 (hE d m 0 0) 0 bk) g:=fun c g=>by rw[JX arL.ok];exact(rP.st (by decide) c).x8 g
 rw[←JX arL.ok m,JW]at Fp
 generalize Fq:((List.range d.accept.length).map fun _=>3)=c9 at Fp
 simp only[go_sem,bq,cN,gI,qF,apP,Fp,Fl,Fm]
 refine(cz (fun i:Nat=>i≤d.accept.length) (fun i=>{t:=ae (ae (ae (ae (ae bH 7 (.int .i64 i)) 6 (.ptr 0 6 0)) 4 (.ptr 0 4 0)) 3 (.ptr 0 3 0)) 2 (.ptr 0 2 0),b:=eS [440] (eI 440 (hE d m i 0) 0 bk) (ae (ae (ae (ae (ae (ae bk 440 (some (ax.dir 1 (ih 0 440 c9)))) 439 (some (ax.arr false 1 (d.accept.map B)))) 6 (some (ax.box [.bS 0 439 d.accept.length,.bS 0 440 d.accept.length]))) 4 (some (ax.box [.slc true 1 [],.slc true 1 []]))) 3 (some (ax.box [.str m.a,.str m.b,.str m.c]))) 2 (some (ax.box [.slc false 1 (d.accept.map B),.slc false 1 (d.next.map bu)]))),o:=[],r:=#[ResultVar.cell 4 31,ResultVar.tmp 5],f:=58,n:=55}) (fun _=>some (.tup [(cF (fQ d m) 0).dX,.bool true],[])) (fun i=>d.accept.length-i) ?_ 0 (Nat.zero_le _))
 intro i hi ag
 by_cases h:i<d.accept.length
 rotate_left
 ·have aq:¬(i:Int)<d.accept.length:=by omega
  obtain rfl:i=d.accept.length:=by omega
  have tM:=yb arL m
  have lm:=vT (fQ d m) tM.ok (by show d.accept.length≤_;omega) tM.pos
  rw[vo tM.ok tM.pos]at lm
  rw[En]
  have kn:(fQ d m).accept=d.accept:=rfl
  have el:(fQ d m).cU.next.map List.length=c9:=by rw[←En,JW];exact Fq
  have ep:(fQ d m).cU.next.map eE=(fQ d m).next.map bu:=by unfold ao.cU;rw[List.map_map];rfl
  have bo:(fQ d m).cU.next.length=d.accept.length:=by rw[←En,rD]
  simp only[ao.enc]at lm
  rw[kn]at lm
  have iA:=fun g (aO:g 439=some (.arr false 1 (d.accept.map B))) (aw:g 440=some (.dir 1 (ih 0 440 c9))) t r f n=>JN (JT (u:=439) (A:=d.accept) (rows:=(fQ d m).cU.next) (g:=g) (by decide) (fun _=>aO) (fun _=>by rw[el];exact aw)) t r f n
  have yD:=fun g aO aw t r f n=>(iA g aO aw t r f n).1
  have yE:=fun g aO aw t r f n=>(iA g aO aw t r f n).2
  simp only[eH,yC,if_false,ep,bo]at yD yE
  generalize cF (fQ d m) 0=Q at*
  simp only[ao.dX]at lm⊢
  simp only[go_sem,aq,yD,yE,lm]
 have aq:(i:Int)<d.accept.length:=by omega
 have w:=cr (n:=i) (by omega)
 have a1:=ag (i+1) (by omega) (by omega)
 simp only[go_sem,aq]
 refine cz (fun k:Nat=>k≤3) (fun k=>{t:=ae (ae (ae (ae (ae (ae bH 8 (.int .i64 k)) 7 (.int .i64 i)) 6 (.ptr 0 6 0)) 4 (.ptr 0 4 0)) 3 (.ptr 0 3 0)) 2 (.ptr 0 2 0),b:=eS [440] (eI 440 (hE d m i k) 0 bk) (ae (ae (ae (ae (ae (ae bk 440 (some (ax.dir 1 (ih 0 440 c9)))) 439 (some (ax.arr false 1 (d.accept.map B)))) 6 (some (ax.box [.bS 0 439 d.accept.length,.bS 0 440 d.accept.length]))) 4 (some (ax.box [.slc true 1 [],.slc true 1 []]))) 3 (some (ax.box [.str m.a,.str m.b,.str m.c]))) 2 (some (ax.box [.slc false 1 (d.accept.map B),.slc false 1 (d.next.map bu)]))),o:=[],r:=#[ResultVar.cell 4 31,ResultVar.tmp 5],f:=58,n:=55}) (fun _=>some (.tup [(cF (fQ d m) 0).dX,.bool true],[])) (fun k=>3-k) ?_ 0 (Nat.zero_le _)
 intro k ay tv
 by_cases pJ:k<3
 rotate_left
 ·obtain rfl:k=3:=by omega
  have aW:¬((3:Nat):Int)<3:=by omega
  rw[W0]
  simp only[go_sem,aW,w]
  exact a1
 have aF:(k:Int)<3:=by omega
 have hF:=cr (n:=k) (by omega)
 have oS:=tv (k+1) (by omega) (by omega)
 have oh:c9.length=d.accept.length:=by rw[←Fq];simp
 have fo:(ih 0 440 c9).length=d.accept.length:=by simp[ih,oh]
 have pY:∀v,(ih 0 440 c9).getD i v=.bS 0 (cg 440 i) 3:=fun v=>by
  have:i<c9.length:=by omega
  have cj:c9.getD i 0=3:=by rw[←Fq];simp[List.getD_eq_getElem?_getD,h]
  unfold ih
  rw[List.getD_eq_getElem?_getD,List.getElem?_map,List.getElem?_range this]
  show eH 0 (cg 440 i) (c9.getD i 0)=_
  rw[cj]
  rfl
 have dE:i<(hE d m i k).length:=by rw[rD];exact h
 have rH:eI 440 (hE d m i k) 0 bk (cg 440 i)=some (.dir 1 ((jQ (d.aN i) (hj d m i) k).map I)):=by
  rw[vH,dif_pos dE,W1 d m k dE,if_neg (JV _ _ _)]
 have hlen:(jQ (d.aN i) (hj d m i) k).length=3:=rfl
 have l7:=WY (d.aN i) (hj d m i) pJ
 rw[WZ]at l7
 replace l7:((jQ (d.aN i) (hj d m i) k).map I).set k (.int .i64 ((walk d (mR m k) i 0:Nat):Int))=(jQ (d.aN i) (hj d m i) (k+1)).map I:=l7
 have am:=LC m (lp k) (by have:(lp k).size≤3:=(by unfold lp AX;simp;omega);omega) aO ad ah
 rw[WV hw pJ]at am
 have rd:=Fh d arL (mR m k) (by have:=WX hw k;omega) (WW hw k) i h
 simp only[ao.enc]at rd
 simp only[cD.enc]at am
 have hb:∀g,ae (eS [440] (eI 440 (hE d m i k) 0 bk) g) (cg 440 i) (some (.dir 1 ((jQ (d.aN i) (hj d m i) (k+1)).map I)))=eS [440] (eI 440 (hE d m i (k+1)) 0 bk) g:=fun g=>by
  have:=WO (u:=440) (j:=i) g (by decide) dE (JV (d.aN i) (hj d m i) (k+1))
  rw[W2]at this
  exact this
 have apQ:∀g,eS [440] (eI 440 (hE d m i k) 0 bk) g (cg 440 i)=some (.dir 1 ((jQ (d.aN i) (hj d m i) k).map I)):=fun g=>(Ej 440 i _ g (by decide)).trans rH
 clear rH
 generalize cg 440 i=R at*
 simp only[go_sem,aF]
 rw[arR]
 rotate_left
 ·kernel_rfl
 have c4:(k:Int)≤((k+1:Nat):Int):=by omega
 have cu:((k+1:Nat):Int)≤(((⟨#[97,98,99]⟩:ByteArray).size:Nat):Int):=by show((k+1:Nat):Int)≤3;omega
 unfold lp AX at am
 simp only[go_sem,still,aF,eq_self,hF,am,rd,c4,cu,aq,fo,pY,apQ,hlen,l7,hb,h,pJ]
 exact oS
end
end Go.aB
namespace Go.aB
open Go Go.Proofs
set_option maxRecDepth 10000
set_option maxHeartbeats 4000000
theorem LJ (a b:Nat):ea Tryz.prog 3 (aQ a) (aQ b)=some (decide (a=b)):=by
 show ea Tryz.prog 3 (.int .i64 (a:Int)) (.int .i64 (b:Int))=_
 rw[EA,kh,Bool.beq_eq_decide_eq]
theorem apR (d:ao) (arL:bG d)
 (fq fn:Nat) (iu h9:List V) (os:List (Nat→Option ax)) (arw:os.length≠0) (hG:∀(st:ab) (objs:_),st.o=os→iu.all (jZ st objs)=true) (fM:∀(st:ab) (objs:_),st.o=os→h9.all (jZ st objs)=true) (vY:iu.isEmpty=false) (aY:h9.isEmpty=false)
 (qt:∀q,q<d.accept.length→∀cw,run ak fq (.int .i64 (q:Nat)::iu) (cw::os)=some (.bool (bB d q),cw::os))
 (tw:∀q,q<d.accept.length→∀k,k<3→∀cw,run ak fn (.int .i64 (q:Nat)::.int .i64 (k:Nat)::h9) (cw::os)=some (.int .i64 (ko (d.aN q) k:Nat),cw::os))
 (vZ:(ak.H fq).uniq=[]) (pK:(ak.H fn).uniq=[]):
 run ak 62 [.int .i64 0,.fn fq iu,.fn fn h9] os=some (rE (pH d),os):=by
 have aj:=arL.ok
 have hle:=arL.le
 have arW:=arL.pos
 have im:=fun x l=>xT (P:=Tryz.prog) (kt:=3) (enc:=aQ) LJ x l 0
 have nH:=fun x l (h:x∉l)=>xU (P:=Tryz.prog) (kt:=3) (enc:=aQ) LJ (x:=x) l 0 h
 simp only[Nat.zero_add,aQ]at im nH
 unfold pH
 rw[run_eq ak 62 _ _ Tryz.func62 (by decide+kernel) rfl (show 3≤_ by decide)]
 dsimp only[Tryz.f62]
 simp only[go_sem,hG,fM]
 refine cz (fun x:Nat×gq=>tn d x.2∧x.1≤x.2.1.length∧(∀w∈x.2.2,w.size≤x.1)) (fun x=>{t:=ae (ae (ae (ae (ae (ae bH 11 (.int .i64 x.1)) 10 (.mp os.length 19)) 9 (.slc true 1 (x.2.2.map V.str))) 8 (.slc true 1 (x.2.1.map aQ))) 2 (.fn fn h9)) 1 (.fn fq iu),b:=ae bk 19 (some (ax.map (hg aQ 0 x.2.1))),o:=os,r:=#[ResultVar.tmp 6,ResultVar.tmp 7],f:=62,n:=77}) (fun x=>some (rE (mS d (d.accept.length+1-x.1) x.1 x.2),os)) (fun x=>d.accept.length+1-x.1) ?_ (0,[0],[⟨#[]⟩]) ⟨⟨by simp,by intro y aA;rw[List.mem_singleton.1 aA];omega,rfl,by intro w hw;rw[List.mem_singleton.1 hw];decide⟩,Nat.zero_le _,by intro w hw;rw[List.mem_singleton.1 hw];exact Nat.le_refl _⟩
 rintro⟨i,p⟩ ⟨arM,hi,ct⟩ ag
 dsimp only at arM hi ct⊢
 have KU:=arM.le
 by_cases h:i<p.1.length
 rotate_left
 ·have aq:¬(i:Int)<p.1.length:=by omega
  rw[JZ h]
  simp only[go_sem,aq,rE,hG,fM]
 have aq:(i:Int)<p.1.length:=by omega
 have fH:=J3 h
 have aE:p.1.getD i 0<d.accept.length:=by
  rw[List.getD_eq_getElem?_getD,List.getElem?_eq_getElem h]
  exact arM.lt _ (List.getElem_mem h)
 have nS:=qt _ aE
 have apS:=J4 (l:=p.2) (i:=i) (by rw[arM.len];exact h)
 have aW:(i:Int)<p.2.length:=by rw[arM.len];exact aq
 have rC:d.accept.length+1-i=(d.accept.length-i)+1:=by omega
 rw[rC]
 cases Bl:bB d (p.1.getD i 0)
 rotate_left
 ·rw[J0 h Bl]
  rw[Bl]at nS
  simp only[go_sem,aq,aW,fH,nS,vY,vZ,apS,rE,hG,fM]
 rw[J1 h Bl]
 rw[Bl]at nS
 have gj:=W5 aj (by omega) arM h ct
 simp only[go_sem,aq,aW,fH,nS,vY,vZ,hG,fM]
 have b1:=cr (n:=i) (by omega)
 refine cz (fun k:Nat=>k≤3) (fun k=>{t:=ae (ae (ae (ae (ae (ae (ae bH 38 (.int .i64 k)) 11 (.int .i64 i)) 10 (.mp os.length 19)) 9 (.slc true 1 ((iY d i p k).2.map V.str))) 8 (.slc true 1 ((iY d i p k).1.map aQ))) 2 (.fn fn h9)) 1 (.fn fq iu),b:=ae bk 19 (some (ax.map (hg aQ 0 (iY d i p k).1))),o:=os,r:=#[ResultVar.tmp 6,ResultVar.tmp 7],f:=62,n:=77}) (fun _=>some (rE (mS d (d.accept.length-i) (i+1) (nF d i p)),os)) (fun k=>3-k) ?_ 0 (Nat.zero_le _)
 intro k ay tv
 obtain⟨hL,mA,n2,ar1,lZ⟩:=gj k ay
 by_cases pJ:k<3
 rotate_left
 ·obtain rfl:k=3:=by omega
  have ck:¬((3:Nat):Int)<3:=by omega
  rw[W4]at hL mA n2⊢
  have a1:=ag (i+1,nF d i p) ⟨hL,by show i+1≤(nF d i p).1.length;omega,mA⟩ (by show d.accept.length+1-(i+1)<d.accept.length+1-i;omega)
  rw[show d.accept.length+1-(i+1)=d.accept.length-i by omega]at a1
  simp only[go_sem,ck,b1,hG,fM]
  exact a1
 have ck:(k:Int)<3:=by omega
 have hF:=cr (n:=k) (by omega)
 have oS:=tv (k+1) (by omega) (by omega)
 have arx:=hL.le
 have apT:i<(iY d i p k).1.length:=by omega
 have ary:=hL.len
 have Fs:=J3 apT
 have LK:=J4 (l:=(iY d i p k).2) (i:=i) (by omega)
 have arz:(p.2.getD i ⟨#[]⟩).size≤1048576:=by
  have:i<p.2.length:=by rw[arM.len];exact h
  rw[List.getD_eq_getElem?_getD,List.getElem?_eq_getElem this]
  exact arM.sz _ (List.getElem_mem this)
 have apU:iY d i p (k+1)=kR (iY d i p k) (ko (d.aN (p.1.getD i 0)) k) (p.2.getD i ⟨#[]⟩++lp k):=by
  show lq d i (iY d i p k) k=_
  unfold lq
  rw[ar1,lZ]
 rw[apU]at oS
 rw[ar1]at Fs
 rw[lZ]at LK
 have pL:=tw _ aE k pJ
 generalize iY d i p k=P at*
 generalize arA:p.1.getD i 0=q at*
 generalize p.2.getD i ⟨#[]⟩=cT at*
 have hO:(i:Int)<P.1.length:=by omega
 have p6:(i:Int)<P.2.length:=by omega
 have tc:=Ep aj aE k
 generalize ko (d.aN q) k=r at*
 have f1:=im r P.1
 have c4:(k:Int)≤((k+1:Nat):Int):=by omega
 have cu:((k+1:Nat):Int)≤(((⟨#[97,98,99]⟩:ByteArray).size:Nat):Int):=by show((k+1:Nat):Int)≤3;omega
 have cS:¬((cT.size+((⟨#[97,98,99]⟩:ByteArray).extract k (k+1)).size:Nat):Int)>9223372036854775807:=by
  have:((⟨#[97,98,99]⟩:ByteArray).extract k (k+1)).size=1:=AY pJ
  omega
 have bL:(P.1.length+1)*8≤140737488355328:=by omega
 have cx:(P.2.length+1)*16≤140737488355328:=by omega
 unfold lp AX at oS
 by_cases hm:r∈P.1
 ·rw[if_pos hm]at f1
  unfold kR at oS
  rw[if_pos hm]at oS
  simp only[go_sem,ck,hO,Fs,pL,aY,pK,f1,hF,hG,fM]
  exact oS
 ·rw[if_neg hm]at f1
  have f2:=nH r P.1 hm
  unfold kR at oS
  rw[if_neg hm]at oS
  simp only[List.map_append,List.map_cons,List.map_nil]at oS
  simp only[go_sem,ck,hO,Fs,pL,aY,pK,f1,f2,bL,hG,fM]
  rw[arR]
  rotate_left
  ·kernel_rfl
  simp only[go_sem,still,p6,LK,c4,cu,cS,cx,hF,eq_self,hG,fM]
  exact oS
theorem apV (d:ao) (q:Nat) (aE:q<d.accept.length) (aq:Nat) (os:List (Nat→Option ax)) (aj:os.length≠0) (J:bV aq 0 os=some (.box [.slc false 1 (d.accept.map B),.slc false 1 (d.next.map bu)])):
 run ak 63 [.int .i64 (q:Nat),.ptr 0 aq 0] os=some (.bool (bB d q),os):=by
 have dA:¬0=os.length:=fun e=>aj e.symm
 have cB:(q:Int)<d.accept.length:=by omega
 have g1:∀v:V,(d.accept.map B).getD q v=B (bB d q):=fun v=>kH aE v
 rw[run_eq ak 63 _ _ Tryz.func63 (by decide+kernel) rfl (show 2≤_ by decide)]
 dsimp only[Tryz.f63]
 simp only[go_sem,dA,J,cB,g1]
theorem apW (d:ao) (aw:d.ok) (q:Nat) (aE:q<d.accept.length) (k:Nat) (ay:k<3) (aq:Nat) (os:List (Nat→Option ax)) (aj:os.length≠0) (J:bV aq 0 os=some (.box [.slc false 1 (d.accept.map B),.slc false 1 (d.next.map bu)])):
 run ak 64 [.int .i64 (q:Nat),.int .i64 (k:Nat),.ptr 0 aq 0] os=some (.int .i64 (ko (d.aN q) k:Nat),os):=by
 have dA:¬0=os.length:=fun e=>aj e.symm
 have cB:(q:Int)<d.next.length:=by rw[aw.1];omega
 have dJ:(k:Int)<3:=by omega
 have g1:∀v:V,(d.next.map bu).getD q v=.slc false 1 [.int .i64 (d.aN q).1,.int .i64 (d.aN q).2.1,.int .i64 (d.aN q).2.2]:=fun v=>hW (by rw[aw.1];exact aE) v
 have g2:=fun v=>W6 (d.aN q) ay v
 rw[run_eq ak 64 _ _ Tryz.func64 (by decide+kernel) rfl (show 3≤_ by decide)]
 dsimp only[Tryz.f64]
 simp only[go_sem,dA,J,cB,dJ,g1,g2]
theorem LL (aq:Nat) (b:Nat→Option ax):∀(st:ab) (objs:_),st.o=[b]→([.ptr 0 aq 0]:List V).all (jZ st objs)=true:=by
 intro st objs h;simp[jZ,ab.lv,h]
theorem LM {k:Nat} {cw gW:Nat→Option ax}:bV k 0 [cw,gW]=gW k:=rfl
theorem apX (d:ao) (arL:bG d):run ak 28 [d.enc] []=some (rE (pH d),[]):=by
 have hle:=arL.le
 have bR:=vR d.cU (by show d.accept.length≤_;omega) (by show(d.next.map _).length≤_;rw[List.length_map,arL.ok.1];omega) (by
  intro r aI
  obtain⟨t,_,rfl⟩:=List.mem_map.1 aI
  show 3≤1048576;decide)
 rw[ao.jO,arL.valid]at bR
 have ex:=fun(gW:Nat→Option ax) (J:gW 1=some (.box [.slc false 1 (d.accept.map B),.slc false 1 (d.next.map bu)]))=>
  apR d arL 63 64 [.ptr 0 1 0] [.ptr 0 1 0] [gW] (by simp) (LL 1 gW) (LL 1 gW) rfl rfl
   (fun q aE cw=>apV d q aE 1 _ (by simp) (by rw[LM];exact J))
   (fun q aE k ay cw=>apW d arL.ok q aE k ay 1 _ (by simp) (by rw[LM];exact J)) (by kernel_rfl) (by kernel_rfl)
 simp only[ao.enc]at bR
 rw[run_eq ak 28 _ _ Tryz.func28 (by decide+kernel) rfl (show 1≤_ by decide)]
 dsimp only[Tryz.f28]
 simp only[ao.enc]
 generalize pH d=o at ex⊢
 cases o<;>simp only[rE]at ex⊢<;>simp only[go_sem,bR,ex,Bool.not_true]
end Go.aB
