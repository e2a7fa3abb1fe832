/- Programs of lines run, both. Failing inputs, both. Failing inputs are the words with which a check fails. Draws: a byte, a number below another, one of some words. Draws: words. Draws: automata. Draws: automata, bent. Draws: an automaton and a word. Draws: morphisms. -/
import Derived.Test.YtlecddobnippmaaGreatEvZ
import Derived.Test.YtlecddobnippmaaGreatEvT
import Derived.Test.YtlecddobnippmaaGreatEvV
import Derived.Test.YtlecddobnippmaaGreatEvS
import Derived.Test.YtlecddobnippmaaGreatEvW
import Derived.Test.YtlecddobnippmaaGreatEvQ
import Derived.Test.YtlecddobnippmaaGreatEvR
set_option linter.unusedVariables false
set_option linter.unusedSimpArgs false
namespace Go.aB
open Go Go.Proofs
set_option maxRecDepth 10000
set_option maxHeartbeats 4000000
def qG (m:cD) (c:Int):ByteArray×Bool:=(if c=97 then m.a else if c=98 then m.b else if c=99 then m.c else⟨#[]⟩,decide (c=97)||(decide (c=98)||decide (c=99)))
theorem apY {m:cD} (J:m.a.size≤1048576) (aa:m.b.size≤1048576) (ar:m.c.size≤1048576) (c:Int):(qG m c).1.size≤1048576:=by
 unfold qG
 dsimp only
 split
 ·exact J
 split
 ·exact aa
 split
 ·exact ar
 ·decide
theorem apZ (m:cD) (s:ByteArray):(fun i:Nat=>if(qG m (bC s i)).2=true then(qG m (bC s i)).1 else one s i)=arV m s:=by
 funext i
 unfold qG arV
 by_cases c4:bC s i=97
 ·simp[c4]
 by_cases cu:bC s i=98
 ·simp[cu]
 by_cases cS:bC s i=99
 ·simp[cS]
 ·simp[c4,cu,cS]
theorem ap0 (c:Int) (m:cD) (dU o:Nat→Option ax) (h:o 2=some (ax.box [.str m.a,.str m.b,.str m.c])):run ak 69 [.int .u8 c,.ptr 0 2 0] [dU,o]=some (.tup [.str (qG m c).1,.bool (qG m c).2],[dU,o]):=by
 unfold qG
 rw[run_eq ak 69 _ _ Tryz.func69 (by decide+kernel) rfl (show 2≤_ by decide)]
 dsimp only[Tryz.f69]
 by_cases c4:c=97
 ·simp only[go_sem,c4,h,decide_true,Bool.true_or,if_true]
 have d1:(c==97)=false:=by simpa using c4
 by_cases cu:c=98
 ·simp only[go_sem,c4,cu,h,decide_true,decide_false,Bool.true_or,Bool.false_or,if_true,if_false,Int.reduceEq,Int.reduceBEq]
 have d2:(c==98)=false:=by simpa using cu
 by_cases cS:c=99
 ·simp only[go_sem,c4,cu,cS,h,decide_true,decide_false,Bool.true_or,Bool.false_or,if_true,if_false,Int.reduceEq,Int.reduceBEq]
 have d3:(c==99)=false:=by simpa using cS
 simp only[go_sem,c4,cu,cS,d1,d2,d3,decide_false,Bool.false_or,if_false]
theorem ap1 (s:ByteArray) (g a:Nat) (F:Int→ByteArray×Bool) (o:Nat→Option ax) (al:s.size≤9223372036854775806) (ad:∀c,(F c).1.size≤1048576)
 (aj:∀vs,ak.bm g vs=none) (hu:(ak.H g).uniq=[]) (po:∀(c:Int) (dU:Nat→Option ax),0≤c→c<256→run ak g [.int .u8 c,.ptr 0 a 0] [dU,o]=some (.tup [.str (F c).1,.bool (F c).2],[dU,o])):
 run ak 68 [.str s,.fn g [.ptr 0 a 0]] [o]=some (.str (k6 (fun i=>if(F (bC s i)).2=true then(F (bC s i)).1 else one s i) s 0 ⟨#[]⟩),[o]):=by
 rw[run_eq ak 68 _ _ Tryz.func68 (by decide+kernel) rfl (show 2≤_ by decide)]
 dsimp only[Tryz.f68]
 simp only[go_sem]
 refine cz (fun x:Nat×ByteArray=>x.2.size≤1048576) (fun x=>{t:=ae (ae (ae (ae bH 6 (.int .i64 x.1)) 5 (.slc true 1 (gX x.2))) 1 (.fn g [.ptr 0 a 0])) 0 (.str s),b:=bk,o:=[o],r:=#[ResultVar.tmp 4],f:=68,n:=39}) (fun x=>some (.str (k6 (fun i=>if(F (bC s i)).2=true then(F (bC s i)).1 else one s i) s x.1 x.2),[o])) (fun x=>s.size-x.1) ?_ (0,⟨#[]⟩) (by decide)
 rintro⟨i,out⟩ hi ag
 dsimp only at hi⊢
 by_cases h:i<s.size
 ·have J:(i:Int)<s.size:=by omega
  have w:=cr (n:=i) (by omega)
  have f1:=po (bC s i) bk (Al s i) (Am s i)
  have bU:=ad (bC s i)
  have hL:=Ap s i h
  rw[vi h]
  simp only[go_sem,J,aj,hu,f1]
  refine Ae (fun k=>?_) (fun k=>?_)
  ·have aT:(out.size+(F (bC s i)).1.size)*1≤140737488355328:=by omega
   rw[if_pos k]
   simp only[go_sem,k,aT,←Ip,Iq]
   refine qf (fun z=>?_) (fun z=>?_)
   ·have nx:(out++(F (bC s i)).1).size>1048576:=by omega
    rw[if_pos nx]
    simp only[go_sem]
   ·have nx:¬(out++(F (bC s i)).1).size>1048576:=by omega
    rw[if_neg nx]
    simp only[go_sem,w]
    exact ag (i+1,out++(F (bC s i)).1) (by show(out++(F (bC s i)).1).size≤1048576;omega) (by show s.size-(i+1)<s.size-i;omega)
  ·have bI:¬(F (bC s i)).2=true:=by rw[k];decide
   have aT:(out.size+1)*1≤140737488355328:=by omega
   have aR:gX out++[.int .u8 (bC s i)]=gX (out++one s i):=by rw[Ip];exact congrArg _ (TY s i h).symm
   rw[if_neg bI]
   simp only[go_sem,k,J,aT,aR,Iq]
   refine qf (fun z=>?_) (fun z=>?_)
   ·have nx:(out++one s i).size>1048576:=by omega
    rw[if_pos nx]
    simp only[go_sem]
   ·have nx:¬(out++one s i).size>1048576:=by omega
    rw[if_neg nx]
    simp only[go_sem,w]
    exact ag (i+1,out++one s i) (by show(out++one s i).size≤1048576;omega) (by show s.size-(i+1)<s.size-i;omega)
 ·have J:¬(i:Int)<s.size:=by omega
  rw[rf h]
  simp only[go_sem,J,T2,T1]
theorem ap2 (m:cD) (s:ByteArray) (al:s.size≤9223372036854775806) (J:m.a.size≤1048576) (aa:m.b.size≤1048576) (ar:m.c.size≤1048576):run ak 34 [m.enc,.str s] []=some (.str (kP m s),[]):=by
 have key:=ap1 s 69 2 (qG m) (ae bk 2 (some (ax.box [.str m.a,.str m.b,.str m.c]))) al (fun c=>apY J aa ar c) (fun _=>KS _) rfl
  (fun x dU _ _=>ap0 x m dU _ rfl)
 rw[apZ]at key
 unfold kP
 rw[run_eq ak 34 _ _ Tryz.func34 (by decide+kernel) rfl (show 2≤_ by decide)]
 dsimp only[Tryz.f34]
 simp only[go_sem,key]
def pM (r:aU) (s:ByteArray):Bool:=match jS r with
 | none=>false
 | some d=>et d s
theorem we {r:aU} {d:ao} (h:jS r=some d):bG d:=by
 unfold jS at h
 split at h
 ·rename_i arL
  unfold jL at arL
  rw[Bool.and_eq_true,Bool.and_eq_true]at arL
  exact ry r arL.2.2 h
 ·cases h
theorem ap3 (r:aU) (aI:ee r.enc≤1048576) (ah:(jS r).isSome=true) (s:ByteArray) (al:s.size≤9223372036854775806) (ai:dx s):run ak 38 [r.enc,.str s] []=some (.bool (pM r s),[]):=by
 have eK:=E9 r aI
 change run ak 59 _ []=some (bz (jS r),[])at eK
 obtain⟨d,tG⟩:=Option.isSome_iff_exists.1 ah
 have arL:=we tG
 have du:pM r s=et d s:=by unfold pM;rw[tG]
 rw[tG]at eK
 rw[du]
 have aw:=arL.ok
 simp only[aU.dv,bz,e6]at eK
 unfold et
 rw[run_eq ak 38 _ _ Tryz.func38 (by decide+kernel) rfl (show 2≤_ by decide)]
 dsimp only[Tryz.f38]
 simp only[go_sem,eK]
 refine cz (fun x:Nat×Nat=>x.1<d.accept.length) (fun x=>{t:=ae (ae (ae (ae bH 8 (.int .i64 x.2)) 7 (.int .i64 x.1)) 5 (.ptr 0 5 0)) 1 (.str s),b:=ae (ae bk 5 (some (ax.box [.slc false 1 (d.accept.map B),.slc false 1 (d.next.map bu)]))) 2 (some (ax.box [.int .i64 r.kind,.str r.dV,.slc false 3 (r.args.map aU.enc)])),o:=[],r:=#[ResultVar.tmp 4],f:=38,n:=36}) (fun x=>some (.bool (d.accept.getD (walk d s x.1 x.2) false),[])) (fun x=>s.size-x.2) ?_ (0,0) arL.pos
 rintro⟨p,i⟩ arM ag
 dsimp only at arM⊢
 by_cases h:i<s.size
 rotate_left
 ·have aq:¬(i:Int)<s.size:=by omega
  have cB:(p:Int)<d.accept.length:=by omega
  have g0:∀v:V,(d.accept.map B).getD p v=.bool (d.accept.getD p false):=fun v=>by
   rw[getD_map arM,List.getD_eq_getElem?_getD,List.getElem?_eq_getElem arM];rfl
  rw[fx h]
  simp only[go_sem,aq,cB,g0]
 have aq:(i:Int)<s.size:=by omega
 have w:=cr (n:=i) (by omega)
 have cB:(p:Int)<d.next.length:=by rw[aw.1];omega
 have g1:∀v:V,(d.next.map bu).getD p v=bu (d.aN p):=fun v=>hW (by rw[aw.1];exact arM) v
 have li:=A4 (bC s i)
 have a1:=ag (fi (d.aN p) (bC s i),i+1) (x4 aw arM _) (by dsimp only;omega)
 rw[iX h]
 dsimp only at a1
 generalize du:d.aN p=A at g1 a1⊢
 simp only[go_sem,aq]
 rw[arR]
 rotate_left
 ·kernel_rfl
 rcases Fg (AR (ai i h)) A with⟨c,e,n⟩ | ⟨c,e,n⟩ | ⟨c,e,n⟩
 all_goals
  rw[e]at li
  rw[n]at a1⊢
  simp only[go_sem,aq,li,cB,g1,w]
  exact a1
def fy:List bQ→ByteArray→Nat→ByteArray×Int
 | [],s,_=>(s,-1)
 | l::ls,s,i=>if l.kind=1 then fy ls (l.text++s) (i+1)else if l.kind=2 then fy ls (s++l.text) (i+1)else if l.kind=3 then fy ls (kP l.dM s) (i+1)
    else if pM l.dB s=true then fy ls s (i+1)else(s,(i:Int))
def qH (ls:List bQ) (s:ByteArray):V:=if js ls=true∧isWord s=true then .tup [.str (fy ls s 0).1,.int .i64 (fy ls s 0).2,.bool true]else .tup [.str ⟨#[]⟩,.int .i64 0,.bool false]
theorem Ft {l:bQ} (h:iJ l=true):((l.kind=1∨l.kind=2)∧l.text.size≤4∧dx l.text)∨(l.kind=3∧hD l.dM=true)∨(l.kind=4∧(jS l.dB).isSome=true):=by
 unfold iJ at h
 split at h
 ·rename_i k
  simp only[Bool.and_eq_true,decide_eq_true_eq]at h
  exact Or.inl ⟨k,h.1.1.1,rz h.1.1.2⟩
 split at h
 ·rename_i k
  simp only[Bool.and_eq_true,decide_eq_true_eq]at h
  exact Or.inr (Or.inl ⟨k,h.1.2⟩)
 split at h
 ·rename_i k
  simp only[Bool.and_eq_true,decide_eq_true_eq]at h
  exact Or.inr (Or.inr ⟨k,h.2⟩)
 ·cases h
theorem ap4 (ls:List bQ) (ai:ls.length≤1048576) (h:∀l∈ls,kT l) (s:ByteArray) (al:s.size≤1048576):run ak 15 [.agg [.slc false 8 (ls.map bQ.enc)],.str s] []=some (qH ls s,[]):=by
 have bR:=Ff ls ai h
 have cE:=rO s (by omega)
 unfold qH
 rw[run_eq ak 15 _ _ Tryz.func15 (by decide+kernel) rfl (show 2≤_ by decide)]
 dsimp only[Tryz.f15]
 cases arM:js ls
 ·rw[arM]at bR
  rw[if_neg (by simp)]
  simp only[go_sem,bR,Bool.not_false]
 cases hw:isWord s
 ·rw[arM]at bR
  rw[hw]at cE
  rw[if_neg (by simp)]
  simp only[go_sem,bR,cE,Bool.not_true,Bool.not_false]
 rw[arM]at bR
 rw[hw]at cE
 rw[if_pos ⟨rfl,rfl⟩]
 have fZ:=arM
 unfold js at fZ
 rw[Bool.and_eq_true,List.all_eq_true]at fZ
 have cH:=of_decide_eq_true fZ.1
 have ap5:=JF hw
 simp only[go_sem,bR,cE,Bool.not_true]
 refine cz (fun x:Nat×ByteArray=>x.1≤ls.length∧x.2.size≤1048576+4*x.1∧dx x.2) (fun x=>{t:=ae (ae (ae bH 7 (.int .i64 x.1)) 2 (.ptr 0 2 0)) 1 (.str x.2),b:=ae bk 2 (some (ax.box [.slc false 8 (ls.map bQ.enc)])),o:=[],r:=#[ResultVar.tmp 4,ResultVar.tmp 5,ResultVar.tmp 6],f:=15,n:=59}) (fun x=>some (.tup [.str (fy (ls.drop x.1) x.2 x.1).1,.int .i64 (fy (ls.drop x.1) x.2 x.1).2,.bool true],[])) (fun x=>ls.length-x.1) ?_ (0,s) ⟨Nat.zero_le _,by omega,rz hw⟩
 rintro⟨i,t⟩ ⟨hi,aK,cK⟩ ag
 dsimp only at hi aK cK⊢
 by_cases bj:i<ls.length
 rotate_left
 ·have aq:¬(i:Int)<ls.length:=by omega
  rw[List.drop_eq_nil_of_le (by omega)]
  simp only[go_sem,aq,fy]
 have aq:(i:Int)<ls.length:=by omega
 have b1:=cr (n:=i) (by omega)
 have hm:=List.getElem_mem bj
 have U:=h _ hm
 have eu:∀v:V,(ls.map bQ.enc).getD i v=ls[i].enc:=fun v=>getD_map bj v
 have ay:=Ft (fZ.2 _ hm)
 rw[List.drop_eq_getElem_cons bj]
 generalize ls[i]=l at eu U ay⊢
 have a1:=fun(bY:ByteArray) J aa=>ag (i+1,bY) ⟨by dsimp only;omega,J,aa⟩ (by dsimp only;omega)
 dsimp only at a1
 simp only[bQ.enc]at eu
 rcases ay with⟨k | k,aF,aW⟩ | ⟨k,aF⟩ | ⟨k,aF⟩
 ·have aT:¬((l.text.size+t.size:Nat):Int)>9223372036854775807:=by omega
  simp only[go_sem,aq,eu,k,aT,b1,fy,if_true]
  exact a1 _ (by rw[ByteArray.size_append];omega) (aW.app cK)
 ·have aT:¬((t.size+l.text.size:Nat):Int)>9223372036854775807:=by omega
  have ap6:¬(2:Int)=1:=by decide
  simp only[go_sem,aq,eu,k,aT,b1,fy,ap6,if_true,if_false,Int.reduceEq,Int.reduceBEq]
  exact a1 _ (by rw[ByteArray.size_append];omega) (cK.app aW)
 ·have am:=LC l.dM t (by omega) U.2.1 U.2.2.1 U.2.2.2.1
  simp only[cD.enc]at am
  simp only[go_sem,aq,eu,k,am,b1,fy,if_true,if_false,Int.reduceEq,Int.reduceBEq]
  exact a1 _ (Nat.le_trans (JI _ _) (by omega)) (Ed aF cK)
 ·have ac:=ap3 l.dB U.2.2.2.2 aF t (by omega) cK
  simp only[aU.dv]at ac
  cases du:pM l.dB t
  ·rw[du]at ac
   simp only[go_sem,aq,eu,k,ac,b1,fy,du,Bool.not_false,Bool.false_eq_true,if_true,if_false,Int.reduceEq,Int.reduceBEq]
  ·rw[du]at ac
   simp only[go_sem,aq,eu,k,ac,b1,fy,du,Bool.not_true,if_true,if_false,Int.reduceEq,Int.reduceBEq]
   exact a1 _ (by omega) cK
theorem Bm (ls:List bQ) (ai:ls.length≤1048576) (h:∀l∈ls,kT l) (s:ByteArray) (al:s.size≤1048576):run ak 13 [.agg [.slc false 8 (ls.map bQ.enc)],.str s] []=some (qH ls s,[]):=by
 have bR:=Fc ls ai h
 have cE:=oN s (by omega)
 unfold qH
 rw[run_eq ak 13 _ _ Tryz.func13 (by decide+kernel) rfl (show 2≤_ by decide)]
 dsimp only[Tryz.f13]
 cases arM:js ls
 ·rw[arM]at bR
  rw[if_neg (by simp)]
  simp only[go_sem,bR,Bool.not_false]
 cases hw:isWord s
 ·rw[arM]at bR
  rw[hw]at cE
  rw[if_neg (by simp)]
  simp only[go_sem,bR,cE,Bool.not_true,Bool.not_false]
 rw[arM]at bR
 rw[hw]at cE
 rw[if_pos ⟨rfl,rfl⟩]
 have fZ:=arM
 unfold js at fZ
 rw[Bool.and_eq_true,List.all_eq_true]at fZ
 have cH:=of_decide_eq_true fZ.1
 have ap5:=JF hw
 simp only[go_sem,bR,cE,Bool.not_true]
 refine cz (fun x:Nat×ByteArray=>x.1≤ls.length∧x.2.size≤1048576+4*x.1∧dx x.2) (fun x=>{t:=ae (ae (ae (ae bH 22 (.int .i64 x.1)) 21 (.int .i64 ls.length)) 20 (.slc false 8 (ls.map bQ.enc))) 1 (.str x.2),b:=ae bk 2 (some (ax.box [.slc false 8 (ls.map bQ.enc)])),o:=[],r:=#[ResultVar.tmp 4,ResultVar.tmp 5,ResultVar.tmp 6],f:=13,n:=67}) (fun x=>some (.tup [.str (fy (ls.drop x.1) x.2 x.1).1,.int .i64 (fy (ls.drop x.1) x.2 x.1).2,.bool true],[])) (fun x=>ls.length-x.1) ?_ (0,s) ⟨Nat.zero_le _,by omega,rz hw⟩
 rintro⟨i,t⟩ ⟨hi,aK,cK⟩ ag
 dsimp only at hi aK cK⊢
 by_cases bj:i<ls.length
 rotate_left
 ·have aq:¬(i:Int)<ls.length:=by omega
  rw[List.drop_eq_nil_of_le (by omega)]
  simp only[go_sem,aq,fy]
 have aq:(i:Int)<ls.length:=by omega
 have b1:=cr (n:=i) (by omega)
 have hm:=List.getElem_mem bj
 have U:=h _ hm
 have eu:∀v:V,(ls.map bQ.enc).getD i v=ls[i].enc:=fun v=>getD_map bj v
 have ay:=Ft (fZ.2 _ hm)
 rw[List.drop_eq_getElem_cons bj]
 generalize ls[i]=l at eu U ay⊢
 have a1:=fun(bY:ByteArray) J aa=>ag (i+1,bY) ⟨by dsimp only;omega,J,aa⟩ (by dsimp only;omega)
 dsimp only at a1
 simp only[bQ.enc]at eu
 rcases ay with⟨k | k,aF,aW⟩ | ⟨k,aF⟩ | ⟨k,aF⟩
 ·have aT:¬((l.text.size+t.size:Nat):Int)>9223372036854775807:=by omega
  simp only[go_sem,aq,eu,k,aT,b1,fy,if_true]
  exact a1 _ (by rw[ByteArray.size_append];omega) (aW.app cK)
 ·have aT:¬((t.size+l.text.size:Nat):Int)>9223372036854775807:=by omega
  simp only[go_sem,aq,eu,k,aT,b1,fy,if_true,if_false,Int.reduceEq,Int.reduceBEq]
  exact a1 _ (by rw[ByteArray.size_append];omega) (cK.app aW)
 ·have am:=ap2 l.dM t (by omega) U.2.1 U.2.2.1 U.2.2.2.1
  simp only[cD.enc]at am
  simp only[go_sem,aq,eu,k,am,b1,fy,if_true,if_false,Int.reduceEq,Int.reduceBEq]
  exact a1 _ (Nat.le_trans (JI _ _) (by omega)) (Ed aF cK)
 ·have eK:=E8 l.dB U.2.2.2.2
  change run ak 24 _ []=some (bz (jS l.dB),[])at eK
  have du:pM l.dB t=match jS l.dB with | none=>false | some d=>et d t:=rfl
  have yF:=fun d=>we (r:=l.dB) (d:=d)
  generalize LN:pM l.dB t=A at du
  generalize jS l.dB=c at eK yF aF du
  cases c with
  | none=>cases aF
  | some d=>
    have arL:=yF d rfl
    have du:A=et d t:=du
    have af:=tK d arL.ok t (by omega) cK 0 arL.pos
    have wl:=mQ arL.ok t _ 0 0 (Nat.le_refl _) arL.pos
    unfold et at du
    generalize walk d t 0 0=q at af wl du
    have bt:(q:Int)<d.accept.length:=by omega
    have g0:∀v:V,(d.accept.map B).getD q v=.bool A:=fun v=>by
     rw[getD_map wl,du,List.getD_eq_getElem?_getD,List.getElem?_eq_getElem wl];rfl
    have qy:((0:Nat):Int)=0:=rfl
    simp only[qy,ao.enc]at af
    simp only[aU.dv,bz,e6]at eK
    simp only[go_sem,aq,eu,k,eK,Int.reduceEq,Int.reduceBEq]
    rw[arR]
    rotate_left
    ·kernel_rfl
    cases A
    ·simp only[go_sem,af,bt,g0,b1,fy,k,LN,Bool.not_false,Bool.false_eq_true,if_true,if_false,Int.reduceEq,Int.reduceBEq]
    ·simp only[go_sem,af,bt,g0,b1,fy,k,LN,Bool.not_true,if_true,if_false,Int.reduceEq,Int.reduceBEq]
     exact a1 _ (by omega) cK
end Go.aB
namespace Go.aB
open Go Go.Proofs
set_option maxRecDepth 10000
set_option maxHeartbeats 4000000
theorem Fu (d:ao):d.cU.gx=d:=by
 show(⟨d.accept,(d.next.map _).map oK⟩:ao)=d
 rw[List.map_map]
 have e:(oK∘fun t:Nat×Nat×Nat=>[(t.1:Int),(t.2.1:Int),(t.2.2:Int)])=id:=by
  funext t
  rfl
 rw[e,List.map_id]
def lG (l:bQ) (d:ao):Option ao:=
 if l.kind=1 then some (cF d (walk d l.text 0 0))else if l.kind=2 then some (cF (hX d l.text) 0)else if l.kind=3 then some (cF (fQ d l.dM) 0)
 else match jS l.dB with
  | some c=>fw (gQ 6 d (dY (cF c 0)))
  | none=>none
theorem Fv {l:bQ} (h:iJ l=true):(l.kind=1∧isWord l.text=true)∨(l.kind=2∧isWord l.text=true)∨(l.kind=3∧hD l.dM=true)∨(l.kind=4∧(jS l.dB).isSome=true):=by
 unfold iJ at h
 by_cases iK:l.kind=1∨l.kind=2
 ·rw[if_pos iK]at h
  simp only[Bool.and_eq_true]at h
  rcases iK with k | k
  ·exact .inl ⟨k,h.1.1.2⟩
  ·exact .inr (.inl ⟨k,h.1.1.2⟩)
 ·rw[if_neg iK]at h
  by_cases aW:l.kind=3
  ·rw[if_pos aW]at h
   simp only[Bool.and_eq_true]at h
   exact .inr (.inr (.inl ⟨aW,h.1.2⟩))
  ·rw[if_neg aW]at h
   by_cases ck:l.kind=4
   ·rw[if_pos ck]at h
    simp only[Bool.and_eq_true]at h
    exact .inr (.inr (.inr ⟨ck,h.2⟩))
   ·rw[if_neg ck]at h
    cases h
theorem Bn {l:bQ} {d e:ao} (aw:bG d) (h:lG l d=some e):bG e:=by
 unfold lG at h
 split at h
 ·cases h
  exact oJ aw (mQ aw.ok _ _ 0 0 (Nat.le_refl _) aw.pos)
 split at h
 ·cases h
  exact oJ ⟨x5 aw.ok _,by rw[qm];exact aw.pos,by rw[qm];exact aw.le⟩ (by rw[qm];exact aw.pos)
 split at h
 ·cases h
  exact oJ (yb aw _) aw.pos
 ·split at h
  ·rename_i c ah
   have h3:=we ah
   have aE:=x3 (oJ h3 h3.pos)
   exact AI (rn aw aE).1 (rn aw aE).2.1 h
  ·cases h
def jd (ls:List bQ):Nat→ao→Option ao
 | 0,d=>some d
 | i+1,d=>match ls[i]? with
   | some l=>(lG l d).bind (jd ls i)
   | none=>none
def tN (ls:List bQ):V:=if js ls=true then bz (jd ls ls.length nE)else bz none
theorem LO {d:ao} (aw:bG d) {s:ByteArray} (hw:isWord s=true):vI d.cU s=.tup [(cF d (walk d s 0 0)).dX,.bool true]:=by
 unfold vI
 rw[if_pos ⟨aw.valid,hw⟩,Fu]
theorem LP {d:ao} (aw:bG d) {s:ByteArray} (hw:isWord s=true):vE d.cU s=.tup [(cF (hX d s) 0).dX,.bool true]:=by
 unfold vE
 rw[if_pos ⟨aw.valid,hw⟩,Fu]
theorem LQ {d:ao} (aw:bG d) {m:cD} (hm:hD m=true):vK d.cU m=.tup [(cF (fQ d m) 0).dX,.bool true]:=by
 unfold vK
 rw[if_pos ⟨aw.valid,hm⟩,Fu]
theorem LR {d:ao} (aw:bG d):d.cU.accept.length≤1048576∧d.cU.next.length≤1048576∧∀r∈d.cU.next,r.length≤1048576:=by
 have hle:=aw.le
 refine⟨by show d.accept.length≤_;omega,by show(d.next.map _).length≤_;rw[List.length_map,aw.ok.1];omega,fun r aI=>?_⟩
 obtain⟨t,_,rfl⟩:=List.mem_map.1 aI
 show 3≤1048576
 decide
theorem LS (ls:List bQ) (ai:ls.length≤1048576) (h:∀l∈ls,kT l):run ak 6 [.agg [.slc false 8 (ls.map bQ.enc)]] []=some (tN ls,[]):=by
 have bR:=Fc ls ai h
 unfold tN
 rw[run_eq ak 6 _ _ Tryz.func6 (by decide+kernel) rfl (show 1≤_ by decide)]
 dsimp only[Tryz.f6]
 cases arM:js ls
 ·rw[arM]at bR
  rw[if_neg (by simp)]
  simp only[go_sem,bR,bz,Bool.not_false]
 rw[arM]at bR
 rw[if_pos rfl]
 have nw:=Lx
 simp only[ao.dC]at nw
 have fZ:=arM
 unfold js at fZ
 rw[Bool.and_eq_true,List.all_eq_true]at fZ
 have hlen:=of_decide_eq_true fZ.1
 replace fZ:=fZ.2
 have cT:IntKind.i64.wrap ((ls.length:Int)-1)=(ls.length:Int)-1:=hC (by omega) (by omega)
 simp only[go_sem,bR,nw,cT,Bool.not_true]
 refine cz (fun x:Nat×ao×Bool=>x.1≤ls.length∧bG x.2.1) (fun x=>{t:=ae (ae (ae (ae bH 5 (.int .i64 ((x.1:Int)-1))) 4 (.ptr 0 4 0)) 2 (.ptr 0 2 0)) 1 (.ptr 0 1 0),b:=ae (ae (ae bk 4 (some (ax.box [.slc x.2.2 1 (x.2.1.accept.map B),.slc x.2.2 1 (x.2.1.next.map bu)]))) 2 (some (ax.box [.slc true 1 [],.slc true 1 []]))) 1 (some (ax.box [.slc false 8 (ls.map bQ.enc)])),o:=[],r:=#[ResultVar.cell 2 31,ResultVar.tmp 3],f:=6,n:=76}) (fun x=>some (bz (jd ls x.1 x.2.1),[])) (fun x=>x.1) ?_ (ls.length,nE,true) ⟨Nat.le_refl _,vA⟩
 rintro⟨i,d,f⟩ ⟨hi,aw⟩ ag
 dsimp only at hi aw⊢
 cases i with
 | zero=>
   have bH:((0:Nat):Int)-1= -1:=rfl
   have cf:¬((-1:Int)≥0):=by decide
   rw[bH]
   simp only[go_sem,cf,jd,bz,ao.enc]
 | succ i=>
 have aR:((i+1:Nat):Int)-1=(i:Int):=by omega
 rw[aR]
 have cf:(i:Int)≥0:=by omega
 have bj:i<ls.length:=by omega
 have aq:(i:Int)<ls.length:=by omega
 have b1:IntKind.i64.wrap ((i:Int)-1)=(i:Int)-1:=hC (by omega) (by omega)
 have hm:=List.getElem_mem bj
 have U:=h _ hm
 have eu:∀v:V,(ls.map bQ.enc).getD i v=ls[i].enc:=fun v=>getD_map bj v
 have ay:=Fv (fZ _ hm)
 have po:jd ls (i+1) d=(lG ls[i] d).bind (jd ls i):=by
  show(match ls[i]? with | some l=>(lG l d).bind (jd ls i) | none=>none)=_
  rw[List.getElem?_eq_getElem bj]
 have jT:=fun e (he:lG (ls[i]'bj) d=some e)=>Bn aw he
 have rQ:ls[i].text.size≤1048576:=U.1
 rw[po]
 generalize ls[i]=l at eu U ay jT rQ⊢
 have a1:=fun(e:ao) (eP:Bool) he=>ag (i,e,eP) ⟨by dsimp only;omega,he⟩ (by dsimp only;omega)
 dsimp only at a1
 obtain⟨d1,d2,d3⟩:=LR aw
 simp only[bQ.enc]at eu
 unfold lG at jT⊢
 rcases ay with⟨k,aF⟩ | ⟨k,aF⟩ | ⟨k,aF⟩ | ⟨k,aF⟩
 ·have ga:=apM d.cU l.text d1 d2 d3 rQ
  rw[LO aw aF,ao.jO]at ga
  rw[if_pos k]at jT⊢
  have arL:=jT _ rfl
  generalize cF d (walk d l.text 0 0)=q at ga arL⊢
  simp only[ao.enc,ao.dX]at ga
  have nG:=a1 q true arL
  simp only[go_sem,cf,aq,eu,k,ga,b1,Option.bind_some]
  exact nG
 ·have ga:=apH d.cU l.text d1 d2 d3 rQ
  rw[LP aw aF,ao.jO]at ga
  have lz:¬l.kind=1:=by omega
  rw[if_neg lz,if_pos k]at jT⊢
  have arL:=jT _ rfl
  generalize cF (hX d l.text) 0=q at ga arL⊢
  simp only[ao.enc,ao.dX]at ga
  have nG:=a1 q true arL
  simp only[go_sem,cf,aq,eu,k,ga,b1,Option.bind_some,Int.reduceEq]
  exact nG
 ·have ga:=apN d.cU l.dM d1 d2 d3 U.2.1 U.2.2.1 U.2.2.2.1
  rw[LQ aw aF,ao.jO]at ga
  have lz:¬l.kind=1:=by omega
  have tO:¬l.kind=2:=by omega
  rw[if_neg lz,if_neg tO,if_pos k]at jT⊢
  have arL:=jT _ rfl
  generalize cF (fQ d l.dM) 0=q at ga arL⊢
  simp only[ao.enc,ao.dX,cD.enc]at ga
  have nG:=a1 q true arL
  simp only[go_sem,cf,aq,eu,k,ga,b1,Option.bind_some,Int.reduceEq]
  exact nG
 ·have lz:¬l.kind=1:=by omega
  have tO:¬l.kind=2:=by omega
  have arX:¬l.kind=3:=by omega
  rw[if_neg lz,if_neg tO,if_neg arX]at jT⊢
  have eK:=E8 l.dB U.2.2.2.2
  rw[show(if jL l.dB=true then gz l.dB else none)=jS l.dB from rfl]at eK
  obtain⟨c,ah⟩:=Option.isSome_iff_exists.1 aF
  rw[ah]at eK jT⊢
  dsimp only at jT⊢
  have h3:=we ah
  have hf:=Lh c h3
  have yG:=x3 (oJ h3 h3.pos)
  generalize dY (cF c 0)=q at hf yG jT⊢
  have lH:=EN d q aw yG 6 (.inl rfl)
  simp only[ao.enc,ao.dC,bz,aU.dv]at eK hf lH
  simp only[go_sem,cf,aq,eu,k,eK,b1,Int.reduceEq]
  rw[arO]
  rotate_left
  ·kernel_rfl
  cases aJ:fw (gQ 6 d q)with
  | none=>
    rw[aJ]at lH
    simp only[bz]at lH
    simp only[go_sem,hf,lH,bz,Option.bind_none]
  | some e=>
    rw[aJ]at lH jT
    have nG:=a1 e false (jT _ rfl)
    simp only[bz,ao.enc]at lH
    simp only[go_sem,hf,lH,b1,Option.bind_some]
    exact nG
theorem ap7 (l:bQ) (U:kT l) (ai:iJ l=true) (d:ao) (aw:bG d):run ak 27 [l.enc,d.enc] []=some (bz (lG l d),[]):=by
 have ay:=Fv ai
 obtain⟨d1,d2,d3⟩:=LR aw
 have rQ:l.text.size≤1048576:=U.1
 unfold lG
 simp only[bQ.enc,ao.enc]
 rw[run_eq ak 27 _ _ Tryz.func27 (by decide+kernel) rfl (show 2≤_ by decide)]
 dsimp only[Tryz.f27]
 rcases ay with⟨k,aF⟩ | ⟨k,aF⟩ | ⟨k,aF⟩ | ⟨k,aF⟩
 ·have ga:=apL d.cU l.text d1 d2 d3 rQ
  rw[LO aw aF,ao.jO]at ga
  rw[if_pos k]
  generalize cF d (walk d l.text 0 0)=q at ga⊢
  simp only[ao.enc,ao.dX]at ga
  simp only[go_sem,k,ga,bz,ao.enc]
 ·have ga:=apF d.cU l.text d1 d2 d3 rQ
  rw[LP aw aF,ao.jO]at ga
  have lz:¬l.kind=1:=by omega
  rw[if_neg lz,if_pos k]
  generalize cF (hX d l.text) 0=q at ga⊢
  simp only[ao.enc,ao.dX]at ga
  simp only[go_sem,k,ga,Int.reduceEq,bz,ao.enc]
 ·have ga:=apO d.cU l.dM d1 d2 d3 U.2.1 U.2.2.1 U.2.2.2.1
  rw[LQ aw aF,ao.jO]at ga
  have lz:¬l.kind=1:=by omega
  have tO:¬l.kind=2:=by omega
  rw[if_neg lz,if_neg tO,if_pos k]
  generalize cF (fQ d l.dM) 0=q at ga⊢
  simp only[ao.enc,ao.dX,cD.enc]at ga
  simp only[go_sem,k,ga,Int.reduceEq,bz,ao.enc]
 ·have lz:¬l.kind=1:=by omega
  have tO:¬l.kind=2:=by omega
  have arX:¬l.kind=3:=by omega
  rw[if_neg lz,if_neg tO,if_neg arX]
  have eK:=E9 l.dB U.2.2.2.2
  rw[show(if jL l.dB=true then gz l.dB else none)=jS l.dB from rfl]at eK
  obtain⟨c,ah⟩:=Option.isSome_iff_exists.1 aF
  rw[ah]at eK⊢
  dsimp only
  have h3:=we ah
  have hf:=Lf c h3
  have yG:=x3 (oJ h3 h3.pos)
  generalize dY (cF c 0)=q at hf yG⊢
  have lH:=EO d q aw yG 6 (.inl rfl)
  simp only[ao.enc,ao.dC,bz,aU.dv]at eK hf lH
  simp only[go_sem,k,eK,Int.reduceEq]
  rw[arO]
  rotate_left
  ·kernel_rfl
  cases aJ:fw (gQ 6 d q)with
  | none=>
    rw[aJ]at lH
    simp only[bz]at lH
    simp only[go_sem,hf,lH,bz,ao.enc]
  | some e=>
    rw[aJ]at lH
    simp only[bz,ao.enc]at lH
    simp only[go_sem,hf,lH,bz,ao.enc]
theorem r7 (ls:List bQ) (ai:ls.length≤1048576) (h:∀l∈ls,kT l):run ak 7 [.agg [.slc false 8 (ls.map bQ.enc)]] []=some (tN ls,[]):=by
 have bR:=Ff ls ai h
 unfold tN
 rw[run_eq ak 7 _ _ Tryz.func7 (by decide+kernel) rfl (show 1≤_ by decide)]
 dsimp only[Tryz.f7]
 cases arM:js ls
 ·rw[arM]at bR
  rw[if_neg (by simp)]
  simp only[go_sem,bR,bz,Bool.not_false]
 rw[arM]at bR
 rw[if_pos rfl]
 have fZ:=arM
 unfold js at fZ
 rw[Bool.and_eq_true,List.all_eq_true]at fZ
 have hlen:=of_decide_eq_true fZ.1
 replace fZ:=fZ.2
 have cT:IntKind.i64.wrap ((ls.length:Int)-1)=(ls.length:Int)-1:=hC (by omega) (by omega)
 simp only[go_sem,bR,cT,Bool.not_true]
 refine cz (fun x:Nat×ao×Bool=>x.1≤ls.length∧bG x.2.1) (fun x=>{t:=ae (ae (ae (ae bH 5 (.int .i64 ((x.1:Int)-1))) 4 (.ptr 0 4 0)) 2 (.ptr 0 2 0)) 1 (.ptr 0 1 0),b:=ae (ae (ae bk 4 (some (ax.box [.slc x.2.2 1 (x.2.1.accept.map B),.slc x.2.2 1 (x.2.1.next.map bu)]))) 2 (some (ax.box [.slc true 1 [],.slc true 1 []]))) 1 (some (ax.box [.slc false 8 (ls.map bQ.enc)])),o:=[],r:=#[ResultVar.cell 2 31,ResultVar.tmp 3],f:=7,n:=39}) (fun x=>some (bz (jd ls x.1 x.2.1),[])) (fun x=>x.1) ?_ (ls.length,nE,true) ⟨Nat.le_refl _,vA⟩
 rintro⟨i,d,f⟩ ⟨hi,aw⟩ ag
 dsimp only at hi aw⊢
 cases i with
 | zero=>
   have bH:((0:Nat):Int)-1= -1:=rfl
   have cf:¬((-1:Int)≥0):=by decide
   rw[bH]
   simp only[go_sem,cf,jd,bz,ao.enc]
 | succ i=>
 have aR:((i+1:Nat):Int)-1=(i:Int):=by omega
 rw[aR]
 have cf:(i:Int)≥0:=by omega
 have bj:i<ls.length:=by omega
 have aq:(i:Int)<ls.length:=by omega
 have b1:IntKind.i64.wrap ((i:Int)-1)=(i:Int)-1:=hC (by omega) (by omega)
 have hm:=List.getElem_mem bj
 have eu:∀v:V,(ls.map bQ.enc).getD i v=ls[i].enc:=fun v=>getD_map bj v
 have po:jd ls (i+1) d=(lG ls[i] d).bind (jd ls i):=by
  show(match ls[i]? with | some l=>(lG l d).bind (jd ls i) | none=>none)=_
  rw[List.getElem?_eq_getElem bj]
 have jT:=fun e (he:lG (ls[i]'bj) d=some e)=>Bn aw he
 have oR:=ap7 (ls[i]'bj) (h _ hm) (fZ _ hm) d aw
 rw[po]
 generalize ls[i]=l at eu jT oR⊢
 have a1:=fun(e:ao) (eP:Bool) he=>ag (i,e,eP) ⟨by dsimp only;omega,he⟩ (by dsimp only;omega)
 dsimp only at a1
 simp only[bQ.enc,ao.enc]at eu oR
 simp only[go_sem,cf,aq]
 rw[arR]
 rotate_left
 ·kernel_rfl
 cases ad:lG l d with
 | none=>
   rw[ad]at oR
   simp only[bz]at oR
   simp only[go_sem,still,cf,aq,eu,oR,Option.bind_none,bz,eq_self]
 | some e=>
   rw[ad]at oR jT
   have nG:=a1 e false (jT _ rfl)
   simp only[bz,ao.enc]at oR
   simp only[go_sem,still,cf,aq,eu,oR,b1,Option.bind_some,eq_self]
   exact nG
def Bo (ls:List bQ):V:=if js ls=true then(match jd ls ls.length nE with
    | none=>.tup [.bool false,.str ⟨#[]⟩,.bool false]
    | some d=>match pH d with
      | some w=>.tup [.bool false,.str w,.bool true]
      | none=>.tup [.bool true,.str ⟨#[]⟩,.bool true])else .tup [.bool false,.str ⟨#[]⟩,.bool false]
theorem LU {ls:List bQ}:∀(i:Nat) {d e:ao},bG d→jd ls i d=some e→bG e:=by
 intro i
 induction i with
 | zero=>intro d e aw h;cases h;exact aw
 | succ i ag=>
   intro d e aw h
   unfold jd at h
   split at h
   ·rename_i l _
    obtain⟨d2,J,aa⟩:=Option.bind_eq_some_iff.1 h
    exact ag (Bn aw J) aa
   ·cases h
theorem r8 (ls:List bQ) (ai:ls.length≤1048576) (h:∀l∈ls,kT l):run ak 8 [.agg [.slc false 8 (ls.map bQ.enc)]] []=some (Bo ls,[]):=by
 have oT:=LS ls ai h
 unfold tN at oT
 unfold Bo
 rw[run_eq ak 8 _ _ Tryz.func8 (by decide+kernel) rfl (show 1≤_ by decide)]
 dsimp only[Tryz.f8]
 cases arM:js ls
 ·rw[arM,if_neg (by simp)]at oT
  rw[if_neg (by simp)]
  simp only[bz]at oT
  simp only[go_sem,oT,Bool.not_false]
 rw[arM,if_pos rfl]at oT
 rw[if_pos rfl]
 cases aJ:jd ls ls.length nE with
 | none=>
   rw[aJ]at oT
   simp only[bz]at oT
   simp only[go_sem,oT,Bool.not_false]
 | some d=>
   rw[aJ]at oT
   have arN:=apX d (LU _ vA aJ)
   simp only[bz,ao.enc]at oT arN
   dsimp only
   generalize pH d=o at arN⊢
   cases o<;>simp only[rE]at arN<;>simp only[go_sem,oT,arN,Bool.not_true,Bool.not_false]
end Go.aB
namespace Go.aB
open Go Go.Proofs
set_option maxRecDepth 10000
def mY (l:bQ) (s:ByteArray):Option ByteArray:=
 if l.kind=1 then some (l.text++s)else if l.kind=2 then some (s++l.text)else if l.kind=3 then some (kP l.dM s)else if pM l.dB s=true then some s else none
def qI:List bQ→ByteArray→Option ByteArray
 | [],s=>some s
 | l::ls,s=>(mY l s).bind (qI ls)
theorem LV (l:bQ):∀(ls:List bQ) (s:ByteArray),qI (ls++[l]) s=(qI ls s).bind (mY l):=by
 intro ls
 induction ls with
 | nil=>intro s;show(mY l s).bind _=mY l s;cases mY l s<;>rfl
 | cons a ls ag=>
   intro s
   show(mY a s).bind _=((mY a s).bind _).bind _
   cases mY a s with
   | none=>rfl
   | some t=>exact ag t
theorem ap8:∀(ls:List bQ) (s:ByteArray) (i:Nat),decide ((fy ls s i).2≥0)=(qI ls s).isNone:=by
 intro ls
 induction ls with
 | nil=>intro s i;rfl
 | cons l ls ag=>
   intro s i
   unfold fy qI mY
   split
   ·exact ag _ _
   split
   ·exact ag _ _
   split
   ·exact ag _ _
   split
   ·exact ag _ _
   ·exact decide_eq_true (show((i:Nat):Int)≥0 by omega)
theorem ap9 {l:bQ} (ai:iJ l=true) {s t:ByteArray} (h:mY l s=some t) (al:dx s) (aD:s.size≤300000):dx t∧t.size+2≤(s.size+2)*3:=by
 unfold mY at h
 rcases Ft ai with⟨k,z,lt⟩ | ⟨k,hm⟩ | ⟨k,_⟩
 ·rcases k with k | k
  ·rw[if_pos k]at h
   cases h
   exact⟨lt.app al,by rw[ByteArray.size_append];omega⟩
  ·rw[if_neg (by omega),if_pos k]at h
   cases h
   exact⟨al.app lt,by rw[ByteArray.size_append];omega⟩
 ·rw[if_neg (by omega),if_neg (by omega),if_pos k]at h
  cases h
  have:=XB hm aD
  exact⟨Ed hm al,by omega⟩
 ·rw[if_neg (by omega),if_neg (by omega),if_neg (by omega)]at h
  split at h
  ·cases h
   exact⟨al,by omega⟩
  ·cases h
theorem aqa {l:bQ} (ai:iJ l=true) {d e:ao} (aw:bG d) (h:lG l d=some e) {s:ByteArray} (al:dx s) (aD:s.size≤300000):et e s=match mY l s with | none=>true | some t=>et d t:=by
 unfold lG at h
 unfold mY
 split at h
 ·rename_i k
  cases h
  rw[if_pos k]
  exact Xs aw l.text s
 rename_i aq
 rw[if_neg aq]
 split at h
 ·rename_i k
  cases h
  rw[if_pos k]
  exact Xt aw l.text s
 rename_i aF
 rw[if_neg aF]
 split at h
 ·rename_i k
  cases h
  rw[if_pos k]
  rcases Fv ai with⟨bI,_⟩ | ⟨bI,_⟩ | ⟨_,hm⟩ | ⟨bI,_⟩
  ·omega
  ·omega
  ·exact XC aw hm al aD
  ·omega
 rename_i aW
 rw[if_neg aW]
 split at h
 ·rename_i c ah
  have h3:=we ah
  have aE:=x3 (oJ h3 h3.pos)
  have bO:pM l.dB s=et c s:=by unfold pM;rw[ah]
  rw[XI (rn aw aE).1 (rn aw aE).2.1 h,XH aw aE,XL (oJ h3 h3.pos),XJ h3,bO]
  cases et c s
  ·simp
  ·simp
 ·cases h
theorem aqb {s t u b:Nat} {i:Nat} (h:t+2≤(s+2)*3^i) (aa:u+2≤(t+2)*3):u+2≤(s+2)*3^(i+1):=by
 rw[Nat.pow_succ,←Nat.mul_assoc]
 omega
theorem aqc {ls:List bQ} (ai:∀l∈ls,iJ l=true):∀(i:Nat),i≤ls.length→i≤8→∀{s t:ByteArray},dx s→s.size≤5→qI (ls.take i) s=some t→dx t∧t.size+2≤(s.size+2)*3^i:=by
 intro i
 induction i with
 | zero=>
   intro _ _ s t al aD h
   rw[List.take_zero]at h
   cases h
   exact⟨al,by omega⟩
 | succ i ag=>
   intro hi cH s t al aD h
   have aL:i<ls.length:=by omega
   rw[List.take_succ_eq_append_getElem aL,LV]at h
   obtain⟨u,J,aa⟩:=Option.bind_eq_some_iff.1 h
   obtain⟨bt,bq⟩:=ag (by omega) (by omega) al aD J
   have arM:3^i≤3^7:=Nat.pow_le_pow_right (by decide) (by omega)
   have ad:(s.size+2)*3^i≤7*3^7:=Nat.mul_le_mul (by omega) arM
   have wb:7*3^7=15309:=rfl
   obtain⟨cd,dS⟩:=ap9 (ai _ (List.getElem_mem aL)) aa bt (by omega)
   exact⟨cd,aqb (b:=0) bq dS⟩
theorem aqd {ls:List bQ} (ai:∀l∈ls,iJ l=true) (cH:ls.length≤8):∀(i:Nat),i≤ls.length→∀{d e:ao},bG d→jd ls i d=some e→∀{s:ByteArray},dx s→s.size≤5→et e s=match qI (ls.take i) s with | none=>true | some t=>et d t:=by
 intro i
 induction i with
 | zero=>
   intro _ d e aw h s al aD
   cases h
   rfl
 | succ i ag=>
   intro hi d e aw h s al aD
   have aL:i<ls.length:=by omega
   unfold jd at h
   rw[List.getElem?_eq_getElem aL]at h
   dsimp only at h
   obtain⟨cy,J,aa⟩:=Option.bind_eq_some_iff.1 h
   rw[ag (by omega) (Bn aw J) aa al aD,List.take_succ_eq_append_getElem aL,LV]
   cases aI:qI (ls.take i) s with
   | none=>rfl
   | some t=>
     obtain⟨bt,bq⟩:=aqc ai i (by omega) (by omega) al aD aI
     have arM:3^i≤3^8:=Nat.pow_le_pow_right (by decide) (by omega)
     have ad:(s.size+2)*3^i≤7*3^8:=Nat.mul_le_mul (by omega) arM
     have e8:7*3^8=45927:=rfl
     exact aqa (ai _ (List.getElem_mem aL)) aw J bt (by omega)
theorem Bp {ls:List bQ} (arM:js ls=true) {d:ao} (h:jd ls ls.length nE=some d) {w:ByteArray} (hw:dx w) (aD:w.size≤5):et d w=decide ((fy ls w 0).2≥0):=by
 unfold js at arM
 rw[Bool.and_eq_true,List.all_eq_true]at arM
 rw[aqd arM.2 (of_decide_eq_true arM.1) ls.length (Nat.le_refl _) vA h hw aD,List.take_length,ap8]
 cases qI ls w with
 | none=>rfl
 | some t=>
   show bB nE _=false
   generalize walk nE t 0 0=q
   cases q with
   | zero=>rfl
   | succ q=>rfl
end Go.aB
namespace Go.aB
open Go Go.Proofs
set_option maxRecDepth 10000
set_option maxHeartbeats 4000000
theorem aqe (l:List Int) (ai:l.length≤1048576):hk ak 76 [] l fun v=>∃x:Int,0≤x∧x≤255∧v=.int .i64 x:=by
 intro i h hi
 have b1:=cr (n:=i) (by omega)
 suffices main:∀(t lv:Nat) (o:List (Nat→Option ax)),bV t lv o=some (cur l i h)→∀cO,(if i<l.length then some (V.int .i64 (rF (IntKind.i64.wrap (yc (qn h)+IntKind.i64.wrap (l.getD i 0))) 255),cP t (cur l (i+1) (qn h)) lv o)else some (V.int .i64 (yc (qn h)),cP t (cur l i (qn h)) lv o))=cO→run ak 76 [.ptr lv t 0] o=cO by
  by_cases bj:i<l.length
  ·refine⟨.int .i64 (rF (IntKind.i64.wrap (yc (qn h)+IntKind.i64.wrap (l.getD i 0))) 255),i+1,qn h,⟨_,(AZ _).1,(AZ _).2,rfl⟩,bj,fun t lv o aj=>?_⟩
   have:=main t lv o aj _ rfl
   rw[if_pos bj]at this
   exact this
  ·refine⟨.int .i64 (yc (qn h)),i,qn h,⟨_,(AZ _).1,(AZ _).2,rfl⟩,hi,fun t lv o aj=>?_⟩
   have:=main t lv o aj _ rfl
   rw[if_neg bj]at this
   exact this
 intro t lv o aj cO cn
 have aL:=eG aj
 have aY:¬lv=o.length:=by omega
 have al:∀ob,bV t lv (cP t ob lv o)=some ob:=fun ob=>by rw[DH _ _ _ _ _ _ aL,if_pos ⟨rfl,rfl⟩]
 unfold cur at aj cn
 unfold yc qn at cn
 rw[run_eq ak 76 _ _ Tryz.func76 (by decide+kernel) rfl (show 1≤_ by decide)]
 dsimp only[Tryz.f76]
 simp only[go_sem,↓tp,↓vL,aj,aY,al,db,ri]
 generalize IntKind.i64.wrap (IntKind.i64.wrap (h*6364136223846793005)+1442695040888963407)=aZ at cn⊢
 rw[arO]
 rotate_left
 ·kernel_rfl
 simp only[go_sem,↓tp,↓vL,aj,aY,al,db,ri]
 generalize rF (Es (aZ.fdiv (2^min 33 64)) (aZ.fdiv (2^min 45 64))) 255=x at cn⊢
 refine(show ∀T:Nat→V,T 0=V.ptr lv t 0→T 3=V.int .i64 x→aX ak _ {t:=T,b:=bk,o:=_,r:=_,f:=_,n:=_}=cO from ?_) _ rfl rfl
 intro T bn ar
 rw[arO]
 rotate_left
 ·kernel_rfl
 by_cases bj:i<l.length
 ·have aq:(i:Int)<l.length:=by omega
  rw[if_pos bj]at cn
  simp only[go_sem,↓tp,↓vL,aj,aY,al,db,ri,List.length_map,aq,bn,ar]
  rw[arO]
  rotate_left
  ·kernel_rfl
  simp only[go_sem,↓tp,↓vL,aj,aY,al,db,ri,List.length_map,aq,bn,ar,J5 _ bj,b1]
  exact cn
 ·have aq:¬(i:Int)<l.length:=by omega
  rw[if_neg bj]at cn
  simp only[go_sem,↓tp,↓vL,aj,aY,al,db,ri,List.length_map,aq,bn,ar]
  exact cn
theorem Bq {t lv:Nat} {o:List (Nat→Option ax)} {ob:ax} (h:bV t lv o=some ob) (b:Nat→Option ax):bV t lv (b::o)=some ob:=by
 have:=eG h
 show(if lv=o.length then _ else bV t lv o)=_
 rw[if_neg (by omega)]
 exact h
theorem oU (n:Int) (J:0<n) (aa:n≤256) (l:List Int) (ai:l.length≤1048576):hk ak 44 [.int .i64 n] l fun v=>∃x:Int,0≤x∧x<n∧v=.int .i64 x:=by
 intro i h hi
 obtain⟨_,hl,aZ,⟨x,fW,dK,rfl⟩,dI,aI⟩:=aqe l ai i h hi
 obtain⟨sF,cd⟩:=W7 fW J
 refine⟨_,hl,aZ,⟨x.tmod n,sF,cd,rfl⟩,dI,fun t lv o aj=>?_⟩
 have aL:=eG aj
 have aY:¬lv=o.length:=by omega
 have aI:=aI t lv _ (Bq aj bk)
 rw[vM _ _ _ _ aL]at aI
 have aq:¬n≤0:=by omega
 have aF:¬n=0:=by omega
 rw[run_eq ak 44 _ _ Tryz.func44 (by decide+kernel) rfl (show 2≤_ by decide)]
 dsimp only[Tryz.f44]
 simp only[go_sem,aq,aF,aa,aY,aI]
theorem aqf (n:Int) (J:0<n) (aa:n≤256) (l:List Int) (ai:l.length≤1048576):hk ak 99 [.int .i64 n] l fun v=>∃b:Bool,v=.bool b:=by
 intro i h hi
 obtain⟨_,hl,aZ,⟨x,fW,dK,rfl⟩,dI,aI⟩:=oU n J aa l ai i h hi
 refine⟨_,hl,aZ,⟨x==0,rfl⟩,dI,fun t lv o aj=>?_⟩
 have aL:=eG aj
 have aY:¬lv=o.length:=by omega
 have aI:=aI t lv _ (Bq aj bk)
 rw[vM _ _ _ _ aL]at aI
 rw[run_eq ak 99 _ _ Tryz.func99 (by decide+kernel) rfl (show 2≤_ by decide)]
 dsimp only[Tryz.f99]
 simp only[go_sem,aY,aI]
theorem qJ (ws:List ByteArray) (J:0<ws.length) (aa:ws.length≤256) (l:List Int) (ai:l.length≤1048576):hk ak 45 [.slc false 1 (ws.map V.str)] l fun v=>∃w∈ws,v=.str w:=by
 intro i h hi
 obtain⟨_,hl,aZ,⟨x,fW,dK,rfl⟩,dI,aI⟩:=oU (ws.length:Int) (by omega) (by omega) l ai i h hi
 obtain⟨n,rfl⟩:∃n:Nat,x=n:=⟨x.toNat,by omega⟩
 have aC:n<ws.length:=by omega
 refine⟨_,hl,aZ,⟨_,List.getElem_mem aC,rfl⟩,dI,fun t lv o aj=>?_⟩
 have aL:=eG aj
 have aY:¬lv=o.length:=by omega
 have aI:=aI t lv _ (Bq aj bk)
 rw[vM _ _ _ _ aL]at aI
 have cf:(0:Int)≤n:=by omega
 rw[run_eq ak 45 _ _ Tryz.func45 (by decide+kernel) rfl (show 2≤_ by decide)]
 dsimp only[Tryz.f45]
 simp only[go_sem,List.length_map,aI,cf,dK,yf aC,toNat_cast]
end Go.aB
namespace Go.aB
open Go Go.Proofs
set_option maxRecDepth 10000
set_option maxHeartbeats 4000000
def yH (s:ByteArray):List ByteArray:=[⟨#[]⟩,⟨#[97]⟩,⟨#[97,98,99]⟩,⟨#[99,99]⟩,⟨#[97,98,100]⟩,⟨#[65]⟩,⟨#[99,99,99,99,99,99,99,99,99,99,99,99,99,99,99,99,99,99,99,99,99,99,99,99,99,99,99,99,99,99]⟩,⟨#[97,97,97,97,97,97,97,97,97,97,97,97,97,97,97,97,97,97,97,97,97,97,97,97,97,97,97,97,97,97,97]⟩,⟨#[97,99,99]⟩,s]
end Go.aB
namespace Go.aB
open Go Go.Proofs
set_option maxRecDepth 10000
set_option maxHeartbeats 4000000
def arB (A:List Bool) (N:List (List Int)):V:=.agg [.slc true 1 (A.map B),.uq 1 (N.map fg)]
end Go.aB
namespace Go.aB
open Go Go.Proofs
set_option maxRecDepth 10000
set_option maxHeartbeats 4000000
theorem aqg (s:ab) (d:Nat) (A:List Bool) {N:List (List Int)} (rN:N≠[]) (h:s.b (d+1)=none):hs s d [.slc true 1 (A.map B),.uq 1 (N.map fg)]=some ([.slc true 1 (A.map B),.ho s.lv (d+1) N.length],{s with b:=ae s.b (d+1) (some (.box (N.map fg)))}):=by
 have df:∀M:List (List Int),((M.map fg).map V.flat).flatten=M.map fg:=by
  intro M
  induction M with
  | nil=>rfl
  | cons r M ag=>
    rw[List.map_cons,List.map_cons,List.flatten_cons,ag]
    rfl
 have e:kv s (d+1) (.uq 1 (N.map fg))=some (.ho s.lv (d+1) N.length,{s with b:=ae s.b (d+1) (some (.box (N.map fg)))}):=by
  cases N with
  | nil=>exact absurd rfl rN
  | cons r N=>
    have aR:=df (r::N)
    have a7:kV ((r::N).map fg)=false:=by
     unfold kV
     rw[aR]
     simp[fg,bM]
    have cj:((r::N).map fg).all nO=true:=by
     rw[List.all_eq_true]
     intro v arL
     obtain⟨x,_,rfl⟩:=List.mem_map.1 arL
     rfl
    rw[List.map_cons]at aR a7 cj⊢
    unfold kv
    dsimp only
    rw[a7,aR,cj,h]
    simp
 unfold hs
 have bH:hs s (d+1) [.uq 1 (N.map fg)]=some ([.ho s.lv (d+1) N.length],{s with b:=ae s.b (d+1) (some (.box (N.map fg)))}):=by
  unfold hs
  have:hs s (d+1+1) []=some ([],s):=rfl
  rw[this]
  dsimp only
  rw[e]
  rfl
 rw[bH]
 rfl
attribute [go_sem high] aqg
end Go.aB
namespace Go.aB
open Go Go.Proofs
set_option maxRecDepth 10000
set_option maxHeartbeats 4000000
theorem LW (l:List Int) (ai:l.length≤1048576):∃h:Int,run ak 19 [.slc false 1 (l.map iZ)] []=some (.nw [.slc false 1 (l.map iZ),.int .i64 0,.int .i64 h],[]):=by
 suffices H:∀Q:yd→Prop,(∀h:Int,Q (some (.nw [.slc false 1 (l.map iZ),.int .i64 0,.int .i64 h],[])))→Q (run ak 19 [.slc false 1 (l.map iZ)] [])from
  H (fun r=>∃h:Int,r=some (.nw [.slc false 1 (l.map iZ),.int .i64 0,.int .i64 h],[])) fun h=>⟨h,rfl⟩
 intro Q e5
 rw[run_eq ak 19 _ _ Tryz.func19 (by decide+kernel) rfl (show 1≤_ by decide)]
 dsimp only[Tryz.f19]
 simp only[go_sem,List.length_map]
 refine ye (fun x:Nat×Int=>x.1≤l.length) (fun x=>{t:=ae (ae (ae bH 4 (.int .i64 (x.1:Int))) 3 (.int .i64 x.2)) 0 (.slc false 1 (l.map iZ)),b:=bk,o:=[],r:=#[ResultVar.tmp 2],f:=19,n:=32}) Q (fun x=>l.length-x.1) ?_ (0,IntKind.i64.wrap (26583+(l.length:Int))) (Nat.zero_le _)
 rintro⟨k,h⟩ ay ag
 dsimp only at ay⊢
 have fin:Q (some (.nw [.slc false 1 (l.map iZ),.int .i64 0,.int .i64 h],[])):=e5 h
 by_cases bj:k<l.length
 rotate_left
 ·have aq:¬(k:Int)<l.length:=by omega
  simp only[go_sem,List.length_map,aq]
  exact fin
 have aq:(k:Int)<l.length:=by omega
 have cf:(0:Int)≤k:=by omega
 have hF:=cr (n:=k) (by omega)
 by_cases aP:(k:Int)<4000
 rotate_left
 ·simp only[go_sem,List.length_map,aq,aP]
  exact fin
 have a1:=fun aZ=>ag (k+1,aZ) bj (by show l.length-(k+1)<l.length-k;omega)
 dsimp only at a1
 simp only[go_sem,↓tp,List.length_map,aq,cf,aP,J5 _ bj,hF,toNat_cast]
 exact a1 _
theorem hk.of {E:Env} {f:Nat} {args:List V} {l:List Int} {P:V→Prop} (h:hk E f args l P) {i:Nat} (hi:i≤l.length) (x:Int):∃v hl aZ,P v∧hl≤l.length∧∀(t lv:Nat) (o:List (Nat→Option ax)),bV t lv o=some (cur l i x)→run E f (.ptr lv t 0::args) o=some (v,cP t (cur l hl aZ) lv o):=h i x hi
end Go.aB
namespace Go.aB
open Go Go.Proofs
set_option maxRecDepth 10000
set_option maxHeartbeats 4000000
def cD.le (m:cD):Prop:=m.a.size≤4∧m.b.size≤4∧m.c.size≤4
def Br:List ByteArray:=[⟨#[97]⟩,⟨#[98]⟩,⟨#[]⟩,⟨#[97,98]⟩,⟨#[99,99,97]⟩]
def Bs:List ByteArray:=[⟨#[98]⟩,⟨#[97]⟩,⟨#[]⟩,⟨#[98,98]⟩]
def Bt:List ByteArray:=[⟨#[99]⟩,⟨#[]⟩,⟨#[97,98,99]⟩]
def LX:List ByteArray:=[⟨#[97,97,97,97]⟩,⟨#[100]⟩,⟨#[88]⟩]
theorem Fw {w:ByteArray} (h:w∈Br∨w∈Bs∨w∈Bt∨w∈LX):w.size≤4:=by
 unfold Br Bs Bt LX at h
 simp only[List.mem_cons,List.not_mem_nil,or_false]at h
 rcases h with (rfl | rfl | rfl | rfl | rfl) | (rfl | rfl | rfl | rfl) | (rfl | rfl | rfl) | (rfl | rfl | rfl)
 all_goals (show _≤_;decide)
end Go.aB
