/- Lists of lists that a loop keeps as objects. Left quotients: another start state, by renaming. Preimages: what they are. Shortest words: what they are. A draw's cursor: a variable of an outer frame. No statement of the seat is proved here. Values of variables, what a string says of them, and that a solution of an equation passes through one of its moves. No statement of the seat is proved here. A solution of an equation passes through one of its moves: bytes as lists. No statement of the seat is proved here. What a minimal automaton accepts is what the automaton accepts; words behind words. Images: an automaton's preimage accepts what the image accepts; images of images. -/
import Derived.Test.YtlecddobnippmaaGreatEvR
import Derived.Test.YtlecddobnippmaaGreatEvP
import Derived.Test.YtlecddobnippmaaGreatEvO
set_option linter.unusedVariables false
set_option linter.unusedSimpArgs false
namespace Go.aB
open Go
set_option maxRecDepth 10000
theorem JQ:iG=26959946667150639794667015087019630673637144422540572481103610249216*4294967296:=by decide
theorem WC (u j:Nat) (hu:u<4294967296):cg u j%4294967296=u:=by
 unfold cg
 rw[JQ,←Nat.mul_assoc,Nat.add_mul_mod_self_right,Nat.mod_eq_of_lt hu]
theorem Eh (u j:Nat):4294967296≤cg u j:=by
 have:=x7 u j
 have k:4294967296≤iG:=by rw[JQ];omega
 omega
theorem AT (D:List Nat) (u j:Nat) (hu:u<4294967296):jY D (cg u j)=aG u D:=by
 rw[Bool.eq_iff_iff,By,WC u j hu]
 exact⟨fun h=>h.2,fun h=>⟨Eh u j,h⟩⟩
theorem vG (D:List Nat) (t:Nat) (h:t<4294967296):jY D t=false:=by
 cases e:jY D t with
 | false=>rfl
 | true=>have:=((By _ _).1 e).1;omega
theorem Ei (D:List Nat) (b g:Nat→Option ax) (t:Nat) (h:t<4294967296):eS D b g t=g t:=by
 unfold eS
 rw[vG D t h]
 rfl
theorem Ej (u j:Nat) (b g:Nat→Option ax) (hu:u<4294967296):eS [u] b g (cg u j)=b (cg u j):=by
 unfold eS
 rw[AT _ _ _ hu]
 simp[aG]
theorem WD (n u j:Nat) (h:n<4294967296):(n=cg u j)=False:=eq_false fun e=>by have:=Eh u j;omega
theorem WE (n u j:Nat) (h:n<4294967296):(cg u j=n)=False:=eq_false fun e=>by have:=Eh u j;omega
def jP (b:Nat→Option ax) (u:Nat) (rows:List (List Int)):Prop:=∀t,jY [u] t=true→b t=eI u rows 0 bk t
theorem Ek (u:Nat) {t:Nat} (h:∀j,t≠cg u j) (rows:List (List Int)) (i:Nat) (b:Nat→Option ax):eI u rows i b t=b t:=xM u rows i b fun j _=>h j
theorem JR (u:Nat):∀(rows:List (List Int)) (i j:Nat) (b:Nat→Option ax),j<i∨i+rows.length≤j→eI u rows i b (cg u j)=b (cg u j):=by
 intro rows
 induction rows with
 | nil=>intro i j b _;rfl
 | cons r rs ag=>
   intro i j b h
   unfold eI
   rw[ag (i+1) j _ (by simp only[List.length_cons]at h;omega)]
   split
   ·rfl
   ·show(if cg u j=cg u i then _ else _)=_
    rw[if_neg fun e=>by have:=Au e;simp only[List.length_cons]at h;omega]
theorem WG (u:Nat):∀(rows:List (List Int)) (i j:Nat) (b:Nat→Option ax) (h:j<rows.length),rows[j]=[]→eI u rows i b (cg u (i+j))=b (cg u (i+j)):=by
 intro rows
 induction rows with
 | nil=>intro i j b h;simp at h
 | cons r rs ag=>
   intro i j b h aD
   unfold eI
   cases j with
   | zero=>
     rw[JR _ _ _ _ _ (.inl (by omega)),if_pos (show r=[]from aD)]
   | succ j=>
     have:=ag (i+1) j (if r=[]then b else ae b (cg u i) (some (.dir 1 (r.map I)))) (by simpa using h) aD
     rw[show i+1+j=i+(j+1) by omega]at this
     rw[this]
     split
     ·rfl
     ·show(if cg u _=cg u i then _ else _)=_
      rw[if_neg fun e=>by have:=Au e;omega]
theorem vH (u:Nat) (rows:List (List Int)) (b:Nat→Option ax) (j:Nat):eI u rows 0 b (cg u j)=if h:j<rows.length then(if rows[j]=[]then b (cg u j)else some (.dir 1 (rows[j].map I)))else b (cg u j):=by
 split
 ·rename_i h
  split
  ·rename_i aD
   have:=WG u rows 0 j b h aD
   rwa [Nat.zero_add]at this
  ·rename_i aD
   have:=II u rows 0 b j h aD
   rwa [Nat.zero_add]at this
 ·exact JR _ _ _ _ _ (.inr (by omega))
theorem jP.AU {b:Nat→Option ax} {u:Nat} {rows:List (List Int)} (h:jP b u rows) (t:Nat→V) (o r f n) (H:Nat→Bool):tY ⟨t,b,o,r,f,n⟩ H [u]:=by
 intro x U ob ad
 have h8:eI u rows 0 bk x=some ob:=(h x U).symm.trans ad
 by_cases aI:∃j,x=cg u j
 ·obtain⟨j,rfl⟩:=aI
  rw[vH]at h8
  split at h8
  ·split at h8
   ·cases h8
   ·obtain rfl:=Option.some.inj h8
    refine⟨1,_,rfl,?_⟩
    rw[List.all_eq_true]
    intro v arL
    obtain⟨y,aA,arL⟩:=List.mem_flatten.1 arL
    obtain⟨z,aD,rfl⟩:=List.mem_map.1 aA
    obtain⟨c,_,rfl⟩:=List.mem_map.1 aD
    obtain rfl:v=I c:=by simpa[I,V.flat]using arL
    rfl
  ·cases h8
 ·rw[Ek u (fun j e=>aI ⟨j,e⟩)]at h8
  cases h8
theorem jP.x8 {b:Nat→Option ax} {u:Nat} {rows:List (List Int)} (h:jP b u rows) (g:Nat→Option ax):eS [u] b g=eS [u] (eI u rows 0 bk) g:=by
 funext t
 unfold eS
 split
 ·rename_i k;exact h t k
 ·rfl
theorem jP.x9 (u:Nat) (rows:List (List Int)) (g:Nat→Option ax):jP (eS [u] (eI u rows 0 bk) g) u rows:=fun t aK=>by
 unfold eS
 rw[if_pos aK]
theorem jP.st {b:Nat→Option ax} {u k:Nat} {rows:List (List Int)} (h:jP b u rows) (ay:k<4294967296) (o:Option ax):jP (ae b k o) u rows:=fun t aK=>by
 show(if t=k then _ else _)=_
 rw[if_neg fun e=>by subst e;rw[vG _ _ ay]at aK;cases aK]
 exact h t aK
theorem jP.set {b:Nat→Option ax} {u j:Nat} {rows:List (List Int)} (h:jP b u rows) (au:j<rows.length) {r:List Int} (aI:r≠[]):jP (ae b (cg u j) (some (.dir 1 (r.map I)))) u (rows.set j r):=fun t aK=>by
 show(if t=cg u j then _ else _)=_
 by_cases e:t=cg u j
 ·rw[if_pos e,e,vH,dif_pos (by rw[List.length_set];exact au)]
  have:(rows.set j r)[j]'(by rw[List.length_set];exact au)=r:=List.getElem_set_self _
  rw[this,if_neg aI]
 ·rw[if_neg e,h t aK]
  by_cases ay:∃i,t=cg u i
  ·obtain⟨i,rfl⟩:=ay
   have w0:j≠i:=fun k=>e (by rw[k])
   rw[vH,vH]
   simp only[List.length_set,List.getElem_set_ne w0]
  ·rw[Ek u (fun i k=>ay ⟨i,k⟩),Ek u (fun i k=>ay ⟨i,k⟩)]
theorem WH (u t:Nat):∀(rows:List (List Int)) (i:Nat) (b cv:Nat→Option ax),b t=cv t→eI u rows i b t=eI u rows i cv t:=by
 intro rows
 induction rows with
 | nil=>intro i b cv h;exact h
 | cons r rs ag=>
   intro i b cv h
   unfold eI
   refine ag _ _ _ ?_
   split
   ·exact h
   ·show(if t=_ then _ else _)=(if t=_ then _ else _)
    rw[h]
theorem JS (b:Nat→Option ax) (u:Nat) (A:List Bool) (rows:List (List Int)) (h:mc b u) (ad:∀t,jY [u+1] t=true→b t=none) (hu:u+1<4294967296):
 ∃dU,(∀t r f n,fA ⟨t,b,[],r,f,n⟩ u [.uq 1 (A.map B),.uq 1 (rows.map fg)]=some ([gp 0 u A.length,gp 0 (u+1) rows.length],⟨t,dU,[],r,f,n⟩))∧mb dU u A rows∧vF u b dU∧jP dU (u+1) rows:=by
 obtain⟨bU,aR,J,aa⟩:=made b u A rows h
 refine⟨bU,aR,J,aa,?_⟩
 have a7:=IJ ⟨bH,b,[],#[],0,0⟩ u A rows (h _ (.inl rfl)) (h _ (.inr (.inl rfl))) fun j=>h _ (.inr (.inr ⟨j,rfl⟩))
 rw[aR]at a7
 have cj:bU=kI u A (iT 0 (u+1) rows b):=by
  have:=congrArg (fun x:Option (List V×ab)=>x.map fun y=>y.2.b) a7
  exact Option.some.inj this
 intro t aK
 have aq:t≠u:=fun e=>by rw[e,vG _ _ (by omega)]at aK;cases aK
 have aF:t≠u+1:=fun e=>by rw[e,vG _ _ hu]at aK;cases aK
 rw[cj]
 have da:kI u A (iT 0 (u+1) rows b) t=iT 0 (u+1) rows b t:=by
  unfold kI
  split
  ·rfl
  ·exact if_neg aq
 rw[da]
 unfold iT
 split
 ·rename_i aD;subst aD;exact ad t aK
 ·show(if t=u+1 then _ else _)=_
  rw[if_neg aF]
  exact WH _ _ _ _ _ _ (ad t aK)
theorem JT {u:Nat} {A:List Bool} {rows:List (List Int)} {g:Nat→Option ax} (hu:u+1<4294967296) (aO:A≠[]→g u=some (.arr false 1 (A.map B))) (aw:rows≠[]→g (u+1)=some (.dir 1 (ih 0 (u+1) (rows.map List.length)))):mb (eS [u+1] (eI (u+1) rows 0 bk) g) u A rows:=
 ⟨fun z=>(Ei _ _ _ _ (by omega)).trans (aO z),fun z=>(Ei _ _ _ _ hu).trans (aw z),fun j au z=>(Ej _ _ _ _ hu).trans (by rw[vH,dif_pos au,if_neg z])⟩
theorem tm {b:Nat→Option ax} {D:List Nat} {k t:Nat} (ay:k<4294967296) (o:Option ax) (aK:jY D t=true):ae b k o t=b t:=if_neg fun e=>by rw[e,vG _ _ ay]at aK;cases aK
theorem WI (s:ab) (H:Nat→Bool) (lv id n:Nat) (h:H id=true):(eH lv id n).flat.all (ar0 s H)=true:=by
 unfold eH
 split
 ·rfl
 ·show([V.bS lv id n].all (ar0 s H))=true
  rw[List.all_cons,List.all_nil,Bool.and_true]
  show((lv != s.lv)||H id)=true
  rw[h,Bool.or_true]
theorem WJ (s:ab) (objs:List Nat) (lv u:Nat) (c9:List Nat) (hu:u<4294967296):((ih lv u c9).map V.flat).flatten.all (ar0 s (qS objs [u]))=true:=by
 rw[List.all_eq_true]
 intro v arL
 obtain⟨y,aA,arL⟩:=List.mem_flatten.1 arL
 obtain⟨z,aD,rfl⟩:=List.mem_map.1 aA
 unfold ih at aD
 obtain⟨i,_,rfl⟩:=List.mem_map.1 aD
 refine List.all_eq_true.1 (WI s _ lv (cg u i) _ ?_) v arL
 rw[r6,AT _ _ _ hu]
 simp[aG]
attribute [go_sem] Ei Ej AT vG WD WE WJ
theorem WK (u:Nat) (rows:List (List Int)) (g:Nat→Option ax) (t o r f n H):tY ⟨t,eS [u] (eI u rows 0 bk) g,o,r,f,n⟩ H [u]=True:=eq_true ((jP.x9 u rows g).AU t o r f n H)
theorem WL (u:Nat) (rows:List (List Int)) (g g':Nat→Option ax):eS [u] (eS [u] (eI u rows 0 bk) g) g'=eS [u] (eI u rows 0 bk) g':=(jP.x9 u rows g).x8 g'
theorem WM (u:Nat) (rows:List (List Int)) (g:Nat→Option ax) (k:Nat) (c t o r f n H) (ay:k<4294967296):tY ⟨t,ae (eS [u] (eI u rows 0 bk) g) k c,o,r,f,n⟩ H [u]=True:=eq_true (((jP.x9 u rows g).st ay c).AU t o r f n H)
theorem WN (u:Nat) (rows:List (List Int)) (g g':Nat→Option ax) (k:Nat) (c) (ay:k<4294967296):eS [u] (ae (eS [u] (eI u rows 0 bk) g) k c) g'=eS [u] (eI u rows 0 bk) g':=((jP.x9 u rows g).st ay c).x8 g'
attribute [go_sem] WK WL WM WN
theorem WO {u j:Nat} {rows:List (List Int)} (g:Nat→Option ax) (hu:u<4294967296) (au:j<rows.length) {r:List Int} (aI:r≠[]):ae (eS [u] (eI u rows 0 bk) g) (cg u j) (some (.dir 1 (r.map I)))=eS [u] (eI u (rows.set j r) 0 bk) g:=by
 have J:=((jP.x9 u rows g).set au aI).x8 g
 rw[←J]
 funext t
 by_cases aK:jY [u] t=true
 ·show _=eS [u] _ g t
  unfold eS
  rw[if_pos aK]
 ·have e:t≠cg u j:=fun e=>aK (by rw[e,AT _ _ _ hu];simp[aG])
  show(if t=cg u j then _ else _)=eS [u] _ g t
  rw[if_neg e]
  unfold eS
  rw[if_neg aK,if_neg aK]
end Go.aB
namespace Go.aB
open Go
def arN (q i:Nat):Nat:=if i=0 then q else if i=q then 0 else i
theorem ya (q i:Nat):arN q (arN q i)=i:=by
 unfold arN
 by_cases h:i=0
 ·subst h
  rw[if_pos rfl]
  by_cases aE:q=0
  ·rw[if_pos aE,aE]
  ·rw[if_neg aE,if_pos rfl]
 ·rw[if_neg h]
  by_cases hi:i=q
  ·rw[if_pos hi,if_pos rfl,hi]
  ·rw[if_neg hi,if_neg h,if_neg hi]
theorem ln {q i n:Nat} (aE:q<n) (hi:i<n):arN q i<n:=by
 unfold arN
 split
 ·exact aE
 split
 ·omega
 ·exact hi
theorem WQ {q x y:Nat} (h:arN q x=arN q y):x=y:=by rw[←ya q x,h,ya]
def kQ (q:Nat) (t:Nat×Nat×Nat):Nat×Nat×Nat:=(arN q t.1,arN q t.2.1,arN q t.2.2)
def fp (d:ao) (q:Nat):ao:=⟨(List.range d.accept.length).map fun i=>bB d (arN q i),(List.range d.accept.length).map fun i=>kQ q (d.aN (arN q i))⟩
theorem pG (d:ao) (q:Nat):(fp d q).accept.length=d.accept.length:=by
 show((List.range _).map _).length=_
 rw[List.length_map,List.length_range]
theorem WR (d:ao) (q:Nat):(fp d q).next.length=d.accept.length:=by
 show((List.range _).map _).length=_
 rw[List.length_map,List.length_range]
theorem AV {d:ao} (aj:d.ok) {q:Nat} (aE:q<d.accept.length):(fp d q).ok:=by
 refine⟨by rw[pG,WR],fun t aK=>?_⟩
 rw[pG]
 obtain⟨i,hi,rfl⟩:=List.mem_map.1 aK
 have h:=ao.ie aj (ln aE (List.mem_range.1 hi))
 exact⟨ln aE h.1,ln aE h.2.1,ln aE h.2.2⟩
theorem El (d:ao) (q:Nat) {i:Nat} (h:i<d.accept.length):bB (fp d q) i=bB d (arN q i):=by
 unfold bB fp
 dsimp only
 rw[List.getD_eq_getElem?_getD,List.getElem?_map,List.getElem?_range h]
 rfl
theorem AW (d:ao) (q:Nat) {i:Nat} (h:i<d.accept.length):(fp d q).aN i=kQ q (d.aN (arN q i)):=by
 unfold ao.aN fp
 dsimp only
 rw[List.getD_eq_getElem?_getD,List.getElem?_map,List.getElem?_range h]
 rfl
theorem JU {d:ao} (aj:d.ok) {q:Nat} (aE:q<d.accept.length):∀k x y,x<d.accept.length→y<d.accept.length→(e9 (fp d q) k x y↔e9 d k (arN q x) (arN q y)):=by
 intro k
 induction k with
 | zero=>
   intro x y U aA
   show bB (fp d q) x=bB (fp d q) y↔bB d (arN q x)=bB d (arN q y)
   rw[El d q U,El d q aA]
 | succ k ag=>
   intro x y U aA
   have aN:=ao.ie aj (ln aE U)
   have Em:=ao.ie aj (ln aE aA)
   show(e9 (fp d q) k x y∧e9 (fp d q) k ((fp d q).aN x).1 ((fp d q).aN y).1∧e9 (fp d q) k ((fp d q).aN x).2.1 ((fp d q).aN y).2.1∧e9 (fp d q) k ((fp d q).aN x).2.2 ((fp d q).aN y).2.2)↔(e9 d k (arN q x) (arN q y)∧e9 d k (d.aN (arN q x)).1 (d.aN (arN q y)).1∧e9 d k (d.aN (arN q x)).2.1 (d.aN (arN q y)).2.1∧e9 d k (d.aN (arN q x)).2.2 (d.aN (arN q y)).2.2)
   rw[AW d q U,AW d q aA]
   unfold kQ
   dsimp only
   rw[ag x y U aA,ag _ _ (ln aE aN.1) (ln aE Em.1),ag _ _ (ln aE aN.2.1) (ln aE Em.2.1),ag _ _ (ln aE aN.2.2) (ln aE Em.2.2)]
   simp only[ya]
theorem WS {d:ao} (aj:d.ok) {q:Nat} (aE:q<d.accept.length):order d q=(order (fp d q) 0).map (arN q):=by
 unfold order
 rw[pG]
 have aJ:=AV aj aE
 have:=D0 (f:=arN q) (Q:=fun x=>x<d.accept.length) (fun x y _ _ h=>WQ h) (g:=(fp d q).aN) (g':=d.aN) (fun x U=>by
  have:=ao.ie aJ (q:=x) (by rw[pG];exact U)
  rw[pG]at this
  exact this) (fun x U=>by
  rw[AW d q U]
  unfold kQ
  simp only[ya]) d.accept.length [0] 0 (fun x U=>by rw[List.mem_singleton.1 U];omega)
 exact this
theorem WT {d:ao} (aj:d.ok) {q:Nat} (aE:q<d.accept.length):cF (fp d q) 0=cF d q:=by
 have aJ:=AV aj aE
 have bn:0<(fp d q).accept.length:=by rw[pG];omega
 have aL:=(rl aJ bn).2
 rw[pG]at aL
 generalize ah:ba (rounds d (d.accept.length+1) (dW d))=c
 have ay:DS (fp d q) 0 (fun x=>c (arN q x)):=by
  refine⟨fun x y U aA=>?_⟩
  have kz:=aL x U
  have e3:=aL y aA
  rw[←ah,xQ aj (by omega) (ln aE kz) (ln aE e3)]
  constructor
  ·intro h k;exact(JU aj aE k x y kz e3).2 (h k)
  ·intro h k;exact(JU aj aE k x y kz e3).1 (h k)
 rw[←DT aJ bn ay]
 unfold cF
 rw[ah]
 unfold quot
 rw[WS aj aE]
 have ai:bX c ((order (fp d q) 0).map (arN q))=(bX (fun x=>c (arN q x)) (order (fp d q) 0)).map (arN q):=I6 c (arN q) _ []
 rw[ai]
 have hm:∀x∈bX (fun x=>c (arN q x)) (order (fp d q) 0),x<d.accept.length:=fun x U=>aL x (ld U)
 generalize bX (fun x=>c (arN q x)) (order (fp d q) 0)=L at hm
 unfold pC
 rw[List.map_map,List.map_map,List.map_map]
 show(⟨_,_⟩:ao)=⟨_,_⟩
 congr 1
 ·exact List.map_congr_left fun x U=>El d q (hm x U)
 ·refine List.map_congr_left fun x U=>?_
  rw[AW d q (hm x U)]
  show rowOf _ _=rowOf _ _
  congr 1
  unfold cS kQ
  simp only[ya]
def vI (x:eQ) (s:ByteArray):V:=if iR x=true∧isWord s=true then .tup [(cF x.gx (walk x.gx s 0 0)).dX,.bool true]else .tup [.agg [.slc false 1 [],.slc false 1 []],.bool false]
end Go.aB
namespace Go.aB
open Go
set_option maxRecDepth 10000
def AX:ByteArray:=⟨#[97,98,99]⟩
def lp (k:Nat):ByteArray:=AX.extract k (k+1)
def mR (m:cD) (k:Nat):ByteArray:=if k=0 then m.a else if k=1 then m.b else m.c
theorem WU (s:ByteArray):(⟨#[]⟩:ByteArray)++s=s:=by
 apply ByteArray.ext
 simp
theorem WV {m:cD} (hm:hD m=true) {k:Nat} (ay:k<3):kP m (lp k)=mR m k:=by
 obtain⟨⟨_,aO⟩,⟨_,ad⟩,⟨_,ah⟩⟩:=vB hm
 unfold kP
 have al:(lp k).size=1:=by
  obtain rfl | rfl | rfl:k=0∨k=1∨k=2:=by omega
  all_goals rfl
 have eO:bC (lp k) (0:Nat)=97+k:=by
  obtain rfl | rfl | rfl:k=0∨k=1∨k=2:=by omega
  all_goals rfl
 have hi:arV m (lp k) 0=mR m k:=by
  unfold arV mR
  rw[eO]
  obtain rfl | rfl | rfl:k=0∨k=1∨k=2:=by omega
  all_goals rfl
 have aD:(mR m k).size≤3:=by unfold mR;(repeat' split)<;>assumption
 rw[vi (by omega),hi,rf (by omega),WU]
 rw[if_neg]
 have:(⟨#[]⟩:ByteArray).size=0:=rfl
 omega
theorem WW {m:cD} (hm:hD m=true) (k:Nat):isWord (mR m k)=true:=by
 unfold hD small at hm
 simp only[Bool.and_eq_true]at hm
 unfold mR
 repeat' split
 ·exact hm.1.1
 ·exact hm.2.1.1
 ·exact hm.2.2.1
theorem WX {m:cD} (hm:hD m=true) (k:Nat):(mR m k).size≤3:=by
 obtain⟨⟨_,aO⟩,⟨_,ad⟩,⟨_,ah⟩⟩:=vB hm
 unfold mR;(repeat' split)<;>assumption
def hj (d:ao) (m:cD) (q:Nat):Nat×Nat×Nat:=(walk d m.a q 0,walk d m.b q 0,walk d m.c q 0)
def fQ (d:ao) (m:cD):ao:=⟨d.accept,(List.range d.accept.length).map (hj d m)⟩
theorem yb {d:ao} (h:bG d) (m:cD):bG (fQ d m):=by
 refine⟨⟨?_,?_⟩,h.pos,h.le⟩
 ·unfold fQ
  dsimp only
  rw[List.length_map,List.length_range]
 ·unfold fQ
  dsimp only
  intro t aK
  obtain⟨q,aE,rfl⟩:=List.mem_map.1 aK
  have e7:=List.mem_range.1 aE
  exact⟨mQ h.ok _ _ q 0 (Nat.le_refl _) e7,mQ h.ok _ _ q 0 (Nat.le_refl _) e7,mQ h.ok _ _ q 0 (Nat.le_refl _) e7⟩
def jQ (o n:Nat×Nat×Nat) (k:Nat):List Int:=[if 0<k then n.1 else o.1,if 1<k then n.2.1 else o.2.1,if 2<k then n.2.2 else o.2.2]
def ko (n:Nat×Nat×Nat) (k:Nat):Nat:=if k=0 then n.1 else if k=1 then n.2.1 else n.2.2
theorem WY (o n:Nat×Nat×Nat) {k:Nat} (ay:k<3):((jQ o n k).map I).set k (I (ko n k))=(jQ o n (k+1)).map I:=by
 obtain rfl | rfl | rfl:k=0∨k=1∨k=2:=by omega
 all_goals rfl
theorem JV (o n:Nat×Nat×Nat) (k:Nat):jQ o n k≠[]:=fun e=>by cases e
theorem WZ (d:ao) (m:cD) (q k:Nat):ko (hj d m q) k=walk d (mR m k) q 0:=by
 unfold ko hj mR
 by_cases bn:k=0
 ·rw[if_pos bn,if_pos bn]
 ·rw[if_neg bn,if_neg bn]
  by_cases J:k=1
  ·rw[if_pos J,if_pos J]
  ·rw[if_neg J,if_neg J]
def hE (d:ao) (m:cD) (q k:Nat):List (List Int):=(List.range d.accept.length).map fun i=>if i<q then jQ (d.aN i) (hj d m i) 3 else if i=q then jQ (d.aN i) (hj d m i) k else jQ (d.aN i) (hj d m i) 0
theorem rD (d:ao) (m:cD) (q k:Nat):(hE d m q k).length=d.accept.length:=by unfold hE;rw[List.length_map,List.length_range]
theorem vJ (d:ao) (m:cD) (q k i:Nat) (h:i<(hE d m q k).length):(hE d m q k)[i]=if i<q then jQ (d.aN i) (hj d m i) 3 else if i=q then jQ (d.aN i) (hj d m i) k else jQ (d.aN i) (hj d m i) 0:=by
 simp only[hE,List.getElem_map,List.getElem_range]
theorem JW (d:ao) (m:cD) (q k:Nat):(hE d m q k).map List.length=(List.range d.accept.length).map fun _=>3:=by
 unfold hE
 rw[List.map_map]
 refine List.map_congr_left fun i _=>?_
 show(if _ then _ else _:List Int).length=3
 split
 ·rfl
 split
 ·rfl
 ·rfl
theorem W0 (d:ao) (m:cD) (q:Nat):hE d m q 3=hE d m (q+1) 0:=by
 refine List.ext_getElem (by rw[rD,rD]) fun i J aa=>?_
 rw[vJ,vJ]
 by_cases e:i<q
 ·rw[if_pos e,if_pos (by omega)]
 ·rw[if_neg e]
  by_cases a7:i=q
  ·rw[if_pos a7,if_pos (by omega)]
  ·rw[if_neg a7,if_neg (by omega)]
   split<;>rfl
theorem W1 (d:ao) (m:cD) {q:Nat} (k:Nat) (aE:q<(hE d m q k).length):(hE d m q k)[q]=jQ (d.aN q) (hj d m q) k:=by
 rw[vJ,if_neg (Nat.lt_irrefl _),if_pos rfl]
theorem W2 (d:ao) (m:cD) (q k j:Nat):(hE d m q k).set q (jQ (d.aN q) (hj d m q) j)=hE d m q j:=by
 refine List.ext_getElem (by rw[List.length_set,rD,rD]) fun i J aa=>?_
 rw[List.getElem_set,vJ d m q j]
 by_cases e:q=i
 ·subst e
  rw[if_pos rfl,if_neg (Nat.lt_irrefl _),if_pos rfl]
 ·rw[if_neg e,vJ d m q k]
  by_cases h:i<q
  ·rw[if_pos h,if_pos h]
  ·rw[if_neg h,if_neg h,if_neg (fun h=>e h.symm),if_neg (fun h=>e h.symm)]
theorem Ar {d:ao} (i:Nat) (h:i<d.next.length):d.aN i=d.next[i]:=by
 unfold ao.aN
 rw[List.getD_eq_getElem?_getD,List.getElem?_eq_getElem h]
 rfl
theorem JX {d:ao} (h:d.ok) (m:cD):hE d m 0 0=d.cU.next:=by
 have ai:=h.1
 refine List.ext_getElem (by rw[rD];show _=(d.next.map _).length;rw[List.length_map,ai]) fun i J aa=>?_
 rw[vJ,if_neg (Nat.not_lt_zero _)]
 have hi:i<d.next.length:=by rw[rD]at J;omega
 have:jQ (d.aN i) (hj d m i) 0=[((d.aN i).1:Int),(d.aN i).2.1,(d.aN i).2.2]:=rfl
 rw[ite_self,this,Ar i hi]
 simp only[ao.cU,List.getElem_map]
theorem En (d:ao) (m:cD):hE d m d.accept.length 0=(fQ d m).cU.next:=by
 show _=(((List.range d.accept.length).map (hj d m)).map _)
 unfold hE
 rw[List.map_map]
 refine List.map_congr_left fun i hi=>?_
 rw[if_pos (List.mem_range.1 hi)]
 rfl
def vK (x:eQ) (m:cD):V:=if iR x=true∧hD m=true then .tup [(cF (fQ x.gx m) 0).dX,.bool true]else .tup [.agg [.slc false 1 [],.slc false 1 []],.bool false]
end Go.aB
namespace Go.aB
open Go
set_option maxRecDepth 10000
abbrev gq:=List Nat×List ByteArray
def kR (p:gq) (q:Nat) (w:ByteArray):gq:=if q∈p.1 then p else(p.1++[q],p.2++[w])
def lq (d:ao) (i:Nat) (p:gq) (k:Nat):gq:=kR p (ko (d.aN (p.1.getD i 0)) k) (p.2.getD i ⟨#[]⟩++lp k)
def nF (d:ao) (i:Nat) (p:gq):gq:=lq d i (lq d i (lq d i p 0) 1) 2
def mS (d:ao):Nat→Nat→gq→Option ByteArray
 | 0,_,_=>none
 | f+1,i,p=>if i<p.1.length then(if bB d (p.1.getD i 0)=true then some (p.2.getD i ⟨#[]⟩)else mS d f (i+1) (nF d i p))else none
def pH (d:ao):Option ByteArray:=mS d (d.accept.length+1) 0 ([0],[⟨#[]⟩])
structure tn (d:ao) (p:gq):Prop where
 nt:p.1.Nodup
 lt:∀y∈p.1,y<d.accept.length
 len:p.2.length=p.1.length
 sz:∀w∈p.2,w.size≤1048576
theorem tn.le {d:ao} {p:gq} (h:tn d p):p.1.length≤d.accept.length:=nv h.nt h.lt
theorem JY (p:gq) (q:Nat) (w:ByteArray):p.1.length≤(kR p q w).1.length:=by
 unfold kR
 split
 ·exact Nat.le_refl _
 ·simp
theorem Eo (p:gq) (q:Nat) (w:ByteArray) {i:Nat} (hi:i<p.1.length) (ai:p.2.length=p.1.length):(kR p q w).1.getD i 0=p.1.getD i 0∧(kR p q w).2.getD i ⟨#[]⟩=p.2.getD i ⟨#[]⟩:=by
 unfold kR
 split
 ·exact⟨rfl,rfl⟩
 ·have dE:i<p.2.length:=by omega
  simp only[List.getD_eq_getElem?_getD]
  rw[List.getElem?_append_left hi,List.getElem?_append_left dE]
  exact⟨rfl,rfl⟩
theorem Ep {d:ao} (aj:d.ok) {q:Nat} (aE:q<d.accept.length) (k:Nat):ko (d.aN q) k<d.accept.length:=by
 obtain⟨J,aa,ar⟩:=ao.ie aj aE
 unfold ko
 split
 ·exact J
 split
 ·exact aa
 ·exact ar
theorem AY {k:Nat} (ay:k<3):(lp k).size=1:=by
 obtain rfl | rfl | rfl:k=0∨k=1∨k=2:=by omega
 all_goals rfl
structure ard (p:gq) (b:Nat):Prop where
 sz:∀w∈p.2,w.size≤b
theorem W3 {d:ao} (aj:d.ok) {i:Nat} {p:gq} (h:tn d p) (hi:i<p.1.length) {k b:Nat} (ay:k<3) (ad:∀w∈p.2,w.size≤b) (hw:(p.2.getD i ⟨#[]⟩).size+1≤b) (Er:b≤1048576):tn d (lq d i p k)∧∀w∈(lq d i p k).2,w.size≤b:=by
 have aE:p.1.getD i 0<d.accept.length:=by
  rw[List.getD_eq_getElem?_getD,List.getElem?_eq_getElem hi]
  exact h.lt _ (List.getElem_mem hi)
 have aL:=Ep aj aE k
 unfold lq kR
 split
 ·exact⟨h,ad⟩
 ·rename_i aC
  have mT:∀w∈p.2++[p.2.getD i ⟨#[]⟩++lp k],w.size≤b:=by
   intro w hm
   rcases List.mem_append.1 hm with hm | hm
   ·exact ad w hm
   ·rw[List.mem_singleton.1 hm,ByteArray.size_append,AY ay]
    exact hw
  refine⟨⟨?_,fun y aA=>?_,by simp[h.len],fun w hm=>Nat.le_trans (mT w hm) Er⟩,mT⟩
  ·exact List.nodup_append.2 ⟨h.nt,by simp,fun a aO b ad e=>aC (by rw[List.mem_singleton.1 ad]at e;exact e▸aO)⟩
  ·rcases List.mem_append.1 aA with aA | aA
   ·exact h.lt y aA
   ·rw[List.mem_singleton.1 aA];exact aL
def are (d:ao):V:=match pH d with
 | some w=>.tup [.str w,.bool true]
 | none=>.tup [.str ⟨#[]⟩,.bool false]
def rE:Option ByteArray→V
 | some w=>.tup [.str w,.bool true]
 | none=>.tup [.str ⟨#[]⟩,.bool false]
theorem JZ {d:ao} {f i:Nat} {p:gq} (h:¬i<p.1.length):mS d f i p=none:=by
 cases f with
 | zero=>rfl
 | succ f=>unfold mS;rw[if_neg h]
theorem J0 {d:ao} {f i:Nat} {p:gq} (h:i<p.1.length) (aO:bB d (p.1.getD i 0)=true):mS d (f+1) i p=some (p.2.getD i ⟨#[]⟩):=by
 unfold mS;rw[if_pos h,if_pos aO]
theorem J1 {d:ao} {f i:Nat} {p:gq} (h:i<p.1.length) (aO:bB d (p.1.getD i 0)=false):mS d (f+1) i p=mS d f (i+1) (nF d i p):=by
 conv=>lhs;unfold mS
 rw[if_pos h,if_neg (by rw[aO];simp)]
def iY (d:ao) (i:Nat) (p:gq):Nat→gq
 | 0=>p
 | k+1=>lq d i (iY d i p k) k
theorem W4 (d:ao) (i:Nat) (p:gq):iY d i p 3=nF d i p:=rfl
theorem W5 {d:ao} (aj:d.ok) (aw:d.accept.length≤1048575) {i:Nat} {p:gq} (h:tn d p) (hi:i<p.1.length) (ad:∀w∈p.2,w.size≤i):∀k,k≤3→tn d (iY d i p k)∧(∀w∈(iY d i p k).2,w.size≤i+1)∧p.1.length≤(iY d i p k).1.length∧(iY d i p k).1.getD i 0=p.1.getD i 0∧(iY d i p k).2.getD i ⟨#[]⟩=p.2.getD i ⟨#[]⟩:=by
 intro k
 induction k with
 | zero=>intro _;exact⟨h,fun w hw=>Nat.le_succ_of_le (ad w hw),Nat.le_refl _,rfl,rfl⟩
 | succ k ag=>
   intro ay
   obtain⟨J,aa,ar,aP,bf⟩:=ag (by omega)
   have hle:=h.le
   have dI:i<(iY d i p k).1.length:=by omega
   have arf:(p.2.getD i ⟨#[]⟩).size≤i:=by
    have ai:i<p.2.length:=by rw[h.len];exact hi
    rw[List.getD_eq_getElem?_getD,List.getElem?_eq_getElem ai]
    exact ad _ (List.getElem_mem ai)
   obtain⟨g1,g2⟩:=W3 aj J dI (k:=k) (b:=i+1) (by omega) aa (by rw[bf];omega) (by omega)
   have J2:=Eo (iY d i p k) (ko (d.aN ((iY d i p k).1.getD i 0)) k) ((iY d i p k).2.getD i ⟨#[]⟩++lp k) dI J.len
   exact⟨g1,g2,Nat.le_trans ar (JY _ _ _),J2.1.trans aP,J2.2.trans bf⟩
theorem J3 {l:List Nat} {i:Nat} (h:i<l.length) (v:V):(l.map aQ).getD i v=aQ (l.getD i 0):=by
 rw[getD_map h,List.getD_eq_getElem?_getD,List.getElem?_eq_getElem h]
 rfl
theorem J4 {l:List ByteArray} {i:Nat} (h:i<l.length) (v:V):(l.map V.str).getD i v=.str (l.getD i ⟨#[]⟩):=by
 rw[getD_map h,List.getD_eq_getElem?_getD,List.getElem?_eq_getElem h]
 rfl
theorem W6 (t:Nat×Nat×Nat) {k:Nat} (ay:k<3) (v:V):([.int .i64 t.1,.int .i64 t.2.1,.int .i64 t.2.2]:List V).getD k v=.int .i64 (ko t k):=by
 obtain rfl | rfl | rfl:k=0∨k=1∨k=2:=by omega
 all_goals rfl
end Go.aB
namespace Go.aB
open Go
def iZ (n:Int):V:=.int .u8 n
def cur (l:List Int) (i:Nat) (h:Int):ax:=.box [.slc false 1 (l.map iZ),.int .i64 (i:Int),.int .i64 h]
def il (l:List Int) (t lv:Nat) (o:List (Nat→Option ax)):Prop:=∃i h,i≤l.length∧bV t lv o=some (cur l i h)
def rF (a b:Int):Int:=IntKind.i64.wrap ((BitVec.ofInt IntKind.i64.bits a &&& BitVec.ofInt IntKind.i64.bits b).toNat:Int)
def Es (a b:Int):Int:=IntKind.i64.wrap ((BitVec.ofInt IntKind.i64.bits a ^^^ BitVec.ofInt IntKind.i64.bits b).toNat:Int)
theorem tp (a b:Int):arith .and .i64 a b=some (.int .i64 (rF a b)):=rfl
theorem vL (a b:Int):arith .xor .i64 a b=some (.int .i64 (Es a b)):=rfl
attribute [go_sem high] tp vL
theorem AZ (a:Int):0≤rF a 255∧rF a 255≤255:=by
 have h:(BitVec.ofInt IntKind.i64.bits a &&& BitVec.ofInt IntKind.i64.bits 255).toNat≤255:=by
  rw[BitVec.toNat_and]
  exact Nat.and_le_right
 unfold rF
 generalize (BitVec.ofInt IntKind.i64.bits a &&& BitVec.ofInt IntKind.i64.bits 255).toNat=n at h
 rw[hC (by omega) (by omega)]
 omega
def qn (h:Int):Int:=IntKind.i64.wrap (IntKind.i64.wrap (h*6364136223846793005)+1442695040888963407)
def yc (h:Int):Int:=rF (Es (h.fdiv (2^min 33 64)) (h.fdiv (2^min 45 64))) 255
theorem W7 {x n:Int} (h:0≤x) (aC:0<n):0≤x.tmod n∧x.tmod n<n:=by
 rw[Int.tmod_eq_emod_of_nonneg h]
 exact⟨Int.emod_nonneg _ (by omega),Int.emod_lt_of_pos _ aC⟩
theorem J5 {l:List Int} {i:Nat} (d:V) (h:i<l.length):(l.map iZ).getD i d=.int .u8 (l.getD i 0):=by
 simp only[List.getD_eq_getElem?_getD,List.getElem?_map,List.getElem?_eq_getElem h];rfl
abbrev yd:=Option (V×List (Nat→Option ax))
def tq (E:Env) (f:Nat) (args:List V) (l:List Int) (t lv:Nat) (P:V→Prop):Prop:=∀o,il l t lv o→∃v ob,P v∧il l t lv (cP t ob lv o)∧run E f (.ptr lv t 0::args) o=some (v,cP t ob lv o)
theorem tq.mk {E:Env} {f:Nat} {args:List V} {l:List Int} {t lv:Nat} {P:V→Prop} (h:∀o,il l t lv o→lv<o.length→∀Q:yd→Prop,(∀v ob,P v→il l t lv (cP t ob lv o)→Q (some (v,cP t ob lv o)))→Q (run E f (.ptr lv t 0::args) o)):tq E f args l t lv P:=by
 intro o aj
 have aL:lv<o.length:=by obtain⟨_,_,_,h⟩:=aj;exact eG h
 exact h o aj aL (fun r=>∃v ob,P v∧il l t lv (cP t ob lv o)∧r=some (v,cP t ob lv o)) fun v ob J aa=>⟨v,ob,J,aa,rfl⟩
theorem il.lt {l:List Int} {t lv:Nat} {o:List (Nat→Option ax)} (h:il l t lv o):lv<o.length:=by obtain⟨_,_,_,h⟩:=h;exact eG h
theorem il.push {l:List Int} {t lv:Nat} {o:List (Nat→Option ax)} (h:il l t lv o) (b:Nat→Option ax):il l t lv (b::o):=by
 have aL:=h.lt
 obtain⟨i,x,hi,aj⟩:=h
 exact⟨i,x,hi,by show(if lv=o.length then _ else bV t lv o)=_;rw[if_neg (by omega)];exact aj⟩
theorem vM (t lv:Nat) (ob:ax) (b:Nat→Option ax) {o:List (Nat→Option ax)} (h:lv<o.length):cP t ob lv (b::o)=b::cP t ob lv o:=by rw[xL,if_neg (by omega)]
theorem il.pop {l:List Int} {t lv:Nat} {b:Nat→Option ax} {o:List (Nat→Option ax)} (h:il l t lv (b::o)) (aL:lv<o.length):il l t lv o:=by
 obtain⟨i,x,hi,aj⟩:=h
 have:(if lv=o.length then b t else bV t lv o)=_:=aj
 rw[if_neg (by omega)]at this
 exact⟨i,x,hi,this⟩
theorem il.self {l:List Int} {t lv:Nat} {o:List (Nat→Option ax)} (h:il l t lv o):∃ob,cP t ob lv o=o:=by
 obtain⟨i,x,hi,aj⟩:=h
 exact⟨_,Ug t lv _ o aj⟩
theorem tq.dN {E:Env} {f:Nat} {args:List V} {l:List Int} {t lv:Nat} {P:V→Prop} (h:tq E f args l t lv P) {o:List (Nat→Option ax)} (ah:il l t lv o) (b:Nat→Option ax):
 ∃v ob,P v∧il l t lv (cP t ob lv o)∧run E f (.ptr lv t 0::args) (b::o)=some (v,b::cP t ob lv o):=by
 obtain⟨v,ob,J,aa,ar⟩:=h _ (ah.push b)
 rw[vM _ _ _ _ ah.lt]at aa ar
 exact⟨v,ob,J,aa.pop (by rw[db];exact ah.lt),ar⟩
theorem tq.at {E:Env} {f:Nat} {args:List V} {l:List Int} {t lv:Nat} {P:V→Prop} (h:tq E f args l t lv P) {o:List (Nat→Option ax)} {ob:ax} (ah:il l t lv (cP t ob lv o)) (b:Nat→Option ax):
 ∃v eV,P v∧il l t lv (cP t eV lv o)∧run E f (.ptr lv t 0::args) (b::cP t ob lv o)=some (v,b::cP t eV lv o):=by
 obtain⟨v,eV,J,aa,ar⟩:=h.dN ah b
 rw[ri]at aa ar
 exact⟨v,eV,J,aa,ar⟩
def hk (E:Env) (f:Nat) (args:List V) (l:List Int) (P:V→Prop):Prop:=∀(i:Nat) (h:Int),i≤l.length→∃(v:V) (hl:Nat) (aZ:Int),P v∧hl≤l.length∧∀(t lv:Nat) (o:List (Nat→Option ax)),bV t lv o=some (cur l i h)→run E f (.ptr lv t 0::args) o=some (v,cP t (cur l hl aZ) lv o)
theorem J6 {l:List Int} {t lv:Nat} {o:List (Nat→Option ax)} (aL:lv<o.length) {i:Nat} (hi:i≤l.length) (h:Int):il l t lv (cP t (cur l i h) lv o):=⟨i,h,hi,by rw[DH _ _ _ _ _ _ aL,if_pos ⟨rfl,rfl⟩]⟩
theorem hk.to {E:Env} {f:Nat} {args:List V} {l:List Int} {P:V→Prop} (h:hk E f args l P) (t lv:Nat):tq E f args l t lv P:=by
 intro o aj
 have aL:=aj.lt
 obtain⟨i,x,hi,aj⟩:=aj
 obtain⟨v,hl,aZ,J,aa,ar⟩:=h i x hi
 exact⟨v,cur l hl aZ,J,J6 aL aa aZ,ar t lv o aj⟩
theorem hk.at {E:Env} {f:Nat} {args:List V} {l:List Int} {P:V→Prop} (h:hk E f args l P) {t lv:Nat} {o:List (Nat→Option ax)} {ob:ax} (ah:il l t lv (cP t ob lv o)):
 ∃v eV,P v∧il l t lv (cP t eV lv o)∧∀b,run E f (.ptr lv t 0::args) (b::cP t ob lv o)=some (v,b::cP t eV lv o):=by
 have aL:=ah.lt
 rw[db]at aL
 obtain⟨i,x,hi,aj⟩:=ah
 obtain⟨v,hl,aZ,J,aa,ar⟩:=h i x hi
 refine⟨v,cur l hl aZ,J,J6 aL aa aZ,fun b=>?_⟩
 have e:bV t lv (b::cP t ob lv o)=some (cur l i x):=by
  show(if lv=(cP t ob lv o).length then b t else bV t lv (cP t ob lv o))=_
  rw[if_neg (by rw[db];omega)]
  exact aj
 rw[ar t lv _ e,vM _ _ _ _ (by rw[db];exact aL),ri]
theorem ye {k4:Type} {E:Env} {c:Code} {k:List cJ} (I:k4→Prop) (S:k4→ab) (Q:yd→Prop) (ow:k4→Nat) (h:∀x,I x→(∀y,I y→ow y<ow x→Q (iter E c k (S y)))→Q (aX E (.code c::.jf c::k) (S x))) (x:k4) (U:I x):Q (iter E c k (S x)):=by
 suffices ∀n x,I x→ow x≤n→Q (iter E c k (S x))from this _ x U (Nat.le_refl _)
 intro n
 induction n with
 | zero=>intro x ic U;exact h x ic fun y aA aL=>absurd aL (by omega)
 | succ n ag=>intro x ic U;exact h x ic fun y aA aL=>ag y aA (by omega)
theorem yf {ws:List ByteArray} {i:Nat} (h:i<ws.length) (d:V):(ws.map V.str).getD i d=.str ws[i]:=by
 simp[List.getD_eq_getElem?_getD,List.getElem?_eq_getElem h]
end Go.aB
namespace Go.aB
open Go
def ff.of (v:ff) (c:Int):ByteArray:=if c=88 then v.x else if c=89 then v.y else if c=90 then v.z else⟨#[]⟩
def ff.Et (v:ff) (c:Int) (s:ByteArray):ff:=if c=88 then {v with x:=s}else if c=89 then {v with y:=s}else if c=90 then {v with z:=s}else v
def ff.le (v:ff) (n:Nat):Prop:=v.x.size≤n∧v.y.size≤n∧v.z.size≤n
theorem ff.of_le {v:ff} {n:Nat} (h:v.le n) (c:Int):(v.of c).size≤n:=by
 unfold ff.of
 obtain⟨J,aa,ar⟩:=h
 split
 ·exact J
 ·split
  ·exact aa
  ·split
   ·exact ar
   ·exact Nat.zero_le _
def A0 (s:ByteArray) (v:ff) (i:Nat):ByteArray:=if isVar (bC s i)=true then v.of (bC s i)else one s i
def tr (s:ByteArray) (v:ff):ByteArray:=k6 (A0 s v) s 0 ⟨#[]⟩
def W8 (c:Int):Bool:=decide (0≤iD c)||isVar c
def isTerm (s:ByteArray):Bool:=kG W8 s 0&&decide ((s.size:Int)≤12)
end Go.aB
namespace Go.aB
def W9 (s t:ByteArray):Bool:=decide (t.size≤s.size)&&decide (s.extract 0 t.size=t)
def A1 (v:ff) (m:nu):ff×Bool:=
 if m.fF.size=0 then(v,decide ((v.of m.name).size=0))
 else if W9 (v.of m.name) (tr (m.fF.extract 0 1) v)=true then(v.Et m.name ((v.of m.name).extract (tr (m.fF.extract 0 1) v).size (v.of m.name).size),true)else(v,false)
def rev (v:ff) (m:nu):ff:=
 if m.fF.size=0 then v.Et m.name ⟨#[]⟩
 else v.Et m.name ((if isVar (bC m.fF 0)=true then v.of (bC m.fF 0)else m.fF.extract 0 1)++v.of m.name)
end Go.aB
namespace Go.aB
def Xa (e:hV):List V:=[.int .i64 1,.str e.left,.str e.right,.int .i64 0,.str ⟨#[]⟩,.slc false 3 [],.slc false 1 [],.int .i64 0]
def P1 (e:hV):V:=.agg [.slc false 8 [.agg (Xa e)]]
def arh (e:hV):Bool:=isTerm e.left&&isTerm e.right
end Go.aB
namespace Go.aB
def Xb (e:hV) (v:ff):Prop:=v.le 5∧tr e.left v=tr e.right v
end Go.aB
namespace Go.aB
theorem ff.cI (v:ff):v.enc.cI=v.enc:=by unfold ff.enc;rw[FC];simp[V.cI]
end Go.aB
namespace Go.aB
open Go
def dy (s:ByteArray):List Int:=s.data.toList.map fun b=>(b.toNat:Int)
theorem lr (s:ByteArray):(dy s).length=s.size:=by unfold dy;simp
theorem qo (s:ByteArray) {i:Nat} (h:i<s.size):(dy s)[i]?=some (bC s i):=by
 unfold dy bC
 have aZ:(i:Int).toNat<s.size:=by simpa using h
 rw[dif_pos aZ]
 simp only[List.getElem?_map,Array.getElem?_toList,Int.toNat_natCast]
 rw[Array.getElem?_eq_getElem (by simpa using h)]
 rfl
theorem Xc (a b:ByteArray):dy (a++b)=dy a++dy b:=by unfold dy;rw[ByteArray.data_append];simp
theorem J7 (s:ByteArray) (a b:Nat):dy (s.extract a b)=((dy s).take b).drop a:=by
 unfold dy
 rw[ByteArray.data_extract,Array.toList_extract,List.extract_eq_take_drop,List.map_take,List.map_drop,List.drop_take]
theorem J8 (s:ByteArray) {i:Nat} (h:i<s.size):dy (one s i)=[bC s i]:=by
 unfold one
 rw[J7]
 have J:i<(dy s).length:=by rw[lr];exact h
 have aa:=qo s h
 rw[List.getElem?_eq_getElem J]at aa
 rw[List.drop_take,Nat.add_sub_cancel_left,List.drop_eq_getElem_cons J,Option.some.inj aa]
 rfl
theorem J9 (f:Nat→ByteArray) (s:ByteArray) (g:Int→List Int) (B:Nat) (aJ:∀i,i<s.size→dy (f i)=g (bC s i)) (Er:∀i,i<s.size→(f i).size≤B):∀(n i:Nat) (out:ByteArray),s.size-i=n→out.size+n*B≤1048576→dy (k6 f s i out)=dy out++((dy s).drop i).flatMap g:=by
 intro n
 induction n with
 | zero=>
   intro i out aC _
   rw[rf (by omega),List.drop_of_length_le (by rw[lr];omega)]
   simp
 | succ n ag=>
   intro i out aC aj
   have hi:i<s.size:=by omega
   have ad:=Er i hi
   have e:(n+1)*B=n*B+B:=by rw[Nat.add_mul,Nat.one_mul]
   have J:i<(dy s).length:=by rw[lr];exact hi
   have aa:=qo s hi
   rw[List.getElem?_eq_getElem J]at aa
   have aD:(out++f i).size=out.size+(f i).size:=ByteArray.size_append
   rw[vi hi,if_neg (by omega),ag (i+1) _ (by omega) (by omega),Xc,aJ i hi,List.drop_eq_getElem_cons J,Option.some.inj aa,List.flatMap_cons,List.append_assoc]
def lu (v:ff) (c:Int):List Int:=if isVar c=true then dy (v.of c)else[c]
def gR (name:Int) (b:List Int) (c:Int):List Int:=if c=name then b else[c]
theorem Ka (s:ByteArray) (v:ff) (arL:v.le 5) (al:s.size≤1000):dy (tr s v)=(dy s).flatMap (lu v):=by
 have:=J9 (A0 s v) s (lu v) 5 (fun i hi=>by
  unfold A0 lu
  split
  ·rfl
  ·exact J8 s hi) (fun i hi=>by
  unfold A0
  split
  ·exact ff.of_le arL _
  ·have:=Ap s i hi;omega) s.size 0 ⟨#[]⟩ (by omega) (by show 0+_≤_;omega)
 exact this
theorem Xd (l r:ByteArray):∀(n k:Nat),l.size-k≤n→k≤k5 l r k∧(∀i,k≤i→i<k5 l r k→i<l.size∧i<r.size∧bC l i=bC r i)∧¬(k5 l r k<l.size∧k5 l r k<r.size∧bC l (k5 l r k)=bC r (k5 l r k)):=by
 intro n
 induction n with
 | zero=>
   intro k ay
   have h:¬(k<l.size∧k<r.size∧bC l k=bC r k):=fun h=>by have:=h.1;omega
   rw[Io h]
   exact⟨Nat.le_refl _,fun i J aa=>absurd aa (by omega),h⟩
 | succ n ag=>
   intro k ay
   by_cases h:k<l.size∧k<r.size∧bC l k=bC r k
   ·rw[TX h.1 h.2.1 h.2.2]
    obtain⟨J,aa,ar⟩:=ag (k+1) (by have:=h.1;omega)
    refine⟨by omega,fun i hi au=>?_,ar⟩
    rcases Nat.eq_or_lt_of_le hi with rfl | hi
    ·exact h
    ·exact aa i hi au
   ·rw[Io h]
    exact⟨Nat.le_refl _,fun i J aa=>absurd aa (by omega),h⟩
theorem Xe (e:hV):∃p,dy e.left=p++dy (strip e).left∧dy e.right=p++dy (strip e).right∧∀c d s t,dy (strip e).left=c::s→dy (strip e).right=d::t→c≠d:=by
 obtain⟨_,aa,ar⟩:=Xd e.left e.right e.left.size 0 (by omega)
 unfold strip
 dsimp only
 generalize k5 e.left e.right 0=k at aa ar
 have lW:k≤e.left.size:=by
  rcases Nat.eq_zero_or_pos k with h | h
  ·omega
  ·have:=(aa (k-1) (Nat.zero_le _) (by omega)).1;omega
 have kr:k≤e.right.size:=by
  rcases Nat.eq_zero_or_pos k with h | h
  ·omega
  ·have:=(aa (k-1) (Nat.zero_le _) (by omega)).2.1;omega
 have el:∀s:ByteArray,dy (ext s k)=(dy s).drop k:=fun s=>by
  unfold ext
  rw[J7,List.take_of_length_le (by rw[lr];exact Nat.le_refl _)]
 have vN:(dy e.left).take k=(dy e.right).take k:=by
  refine List.ext_getElem? fun i=>?_
  rw[List.getElem?_take,List.getElem?_take]
  by_cases hi:i<k
  ·obtain⟨aT,a2,a3⟩:=aa i (Nat.zero_le _) hi
   rw[if_pos hi,if_pos hi,qo _ aT,qo _ a2,a3]
  ·rw[if_neg hi,if_neg hi]
 refine⟨(dy e.left).take k,by rw[el,List.take_append_drop],by rw[el,vN,List.take_append_drop],fun c d s t aP bf=>?_⟩
 rw[el]at aP bf
 rintro rfl
 have g4:(dy e.left)[k]?=some c:=by
  have:=congrArg (fun l=>l[0]?) aP
  simpa using this
 have g5:(dy e.right)[k]?=some c:=by
  have:=congrArg (fun l=>l[0]?) bf
  simpa using this
 have ck:k<e.left.size:=by
  have:=(List.getElem?_eq_some_iff.1 g4).1
  rwa [lr]at this
 have ek:k<e.right.size:=by
  have:=(List.getElem?_eq_some_iff.1 g5).1
  rwa [lr]at this
 rw[qo _ ck]at g4
 rw[qo _ ek]at g5
 exact ar ⟨ck,ek,by rw[Option.some.inj g4,Option.some.inj g5]⟩
theorem Eu (p:Int→Bool) (s:ByteArray):∀(n i:Nat),s.size-i≤n→(kG p s i=true↔∀j,i≤j→j<s.size→p (bC s j)=true):=by
 intro n
 induction n with
 | zero=>
   intro i hi
   rw[Ao _ _ (by omega)]
   exact⟨fun _ j J aa=>absurd aa (by omega),fun _=>rfl⟩
 | succ n ag=>
   intro i hi
   by_cases h:i<s.size
   ·rw[An _ _ h,Bool.and_eq_true,ag (i+1) (by omega)]
    constructor
    ·rintro⟨J,aa⟩ j au uI
     rcases Nat.eq_or_lt_of_le au with rfl | au
     ·exact J
     ·exact aa j au uI
    ·intro J
     exact⟨J i (Nat.le_refl _) h,fun j aa ar=>J j (by omega) ar⟩
   ·rw[Ao _ _ h]
    exact⟨fun _ j J aa=>absurd aa (by omega),fun _=>rfl⟩
theorem Xf (p:Int→Bool) (s:ByteArray):kG p s 0=true↔∀c∈dy s,p c=true:=by
 rw[Eu p s s.size 0 (by omega)]
 constructor
 ·intro h c ah
  obtain⟨i,hi,e⟩:=List.getElem_of_mem ah
  have dI:i<s.size:=by rwa [lr]at hi
  have:=qo s dI
  rw[List.getElem?_eq_getElem hi,e]at this
  rw[Option.some.inj this]
  exact h i (Nat.zero_le _) dI
 ·intro h j _ au
  exact h _ (List.mem_of_getElem? (qo s au))
theorem ari {e:hV} {v:ff} (al:Xb e v) (ai:e.left.size≤1000) (aI:e.right.size≤1000):(dy (strip e).left).flatMap (lu v)=(dy (strip e).right).flatMap (lu v):=by
 obtain⟨p,J,aa,_⟩:=Xe e
 have ar:=congrArg dy al.2
 rw[Ka _ v al.1 ai,Ka _ v al.1 aI,J,aa,List.flatMap_append,List.flatMap_append]at ar
 exact List.append_cancel_left ar
def Fits (e:hV) (v:ff) (m:nu):Prop:=(A1 v m).2=true∧tr (strip ⟨Aq e.left m.name m.fF,Aq e.right m.name m.fF⟩).left (A1 v m).1=tr (strip ⟨Aq e.left m.name m.fF,Aq e.right m.name m.fF⟩).right (A1 v m).1∧rev (A1 v m).1 m=v
end Go.aB
namespace Go.aB
open Go
theorem Xg {L:List Nat} {c:Nat→Nat} {x:Nat} (h:∃z∈L,c z=c x):∃z,z∈L∧c z=c x∧(L.map c).idxOf (c x)<L.length∧L.getD ((L.map c).idxOf (c x)) 0=z:=by
 obtain⟨z,aD,e⟩:=h
 have hm:c x∈L.map c:=List.mem_map.2 ⟨z,aD,e⟩
 have aL:=List.idxOf_lt_length_of_mem hm
 rw[List.length_map]at aL
 refine⟨L.getD ((L.map c).idxOf (c x)) 0,?_,?_,aL,rfl⟩
 ·rw[List.getD_eq_getElem?_getD,List.getElem?_eq_getElem aL]
  exact List.getElem_mem aL
 ·have J:=oB hm
  unfold dN at J
  rw[List.getD_eq_getElem?_getD,List.getElem?_map,List.getElem?_eq_getElem aL]at J
  rw[List.getD_eq_getElem?_getD,List.getElem?_eq_getElem aL]
  exact J
theorem Xh (c:Nat→Nat) (t:Nat×Nat×Nat) (pI:Int):fi (cS c t) pI=c (fi t pI):=by
 unfold fi cS
 split
 ·rfl
 split<;>rfl
theorem Xi (L:List Nat) (t:Nat×Nat×Nat) (pI:Int):fi (rowOf L t) pI=L.idxOf (fi t pI):=by
 unfold fi rowOf
 split
 ·rfl
 split<;>rfl
theorem Xj {d:ao} {p q:Nat} (h:jN d p q) (pI:Int):jN d (fi (d.aN p) pI) (fi (d.aN q) pI):=by
 obtain⟨J,aa,ar⟩:=h.aN
 unfold fi
 split
 ·exact J
 split
 ·exact aa
 ·exact ar
theorem Kb {t:Nat×Nat×Nat} {X:List Nat} (h:pB t X) (pI:Int):fi t pI∈X:=by
 obtain⟨J,aa,ar⟩:=h
 unfold fi
 split
 ·exact J
 split
 ·exact aa
 ·exact ar
theorem Xk {d:ao} (aj:d.ok) {c5:Nat} (aE:c5<d.accept.length) {c:Nat→Nat} (ah:∀x y,x<d.accept.length→y<d.accept.length→(c x=c y↔jN d x y)) (s:ByteArray):∀(n p i:Nat),s.size-i≤n→p∈order d c5→bB (quot d c c5) (walk (quot d c c5) s (((bX c (order d c5)).map c).idxOf (c p)) i)=bB d (walk d s p i):=by
 have aL:=(rl aj aE).2
 have Kc:∀p,p∈order d c5→∃z,z∈bX c (order d c5)∧c z=c p∧((bX c (order d c5)).map c).idxOf (c p)<(bX c (order d c5)).length∧(bX c (order d c5)).getD (((bX c (order d c5)).map c).idxOf (c p)) 0=z:=fun p arM=>Xg (vm arM)
 intro n
 induction n with
 | zero=>
   intro p i h arM
   rw[fx (by omega),fx (by omega)]
   obtain⟨z,aD,e,ai,av⟩:=Kc p arM
   have hi:jN d z p:=(ah z p (aL z (ld aD)) (aL p arM)).1 e
   unfold quot pC
   show List.getD _ _ _=_
   rw[List.getD_eq_getElem?_getD,List.getElem?_map,List.getElem?_eq_getElem ai]
   rw[List.getD_eq_getElem?_getD,List.getElem?_eq_getElem ai]at av
   have bT:(bX c (order d c5))[((bX c (order d c5)).map c).idxOf (c p)]=z:=av
   show bB d _=_
   rw[bT]
   exact hi.acc
 | succ n ag=>
   intro p i h arM
   by_cases k:i<s.size
   rotate_left
   ·exact ag p i (by omega) arM
   obtain⟨z,aD,e,ai,av⟩:=Kc p arM
   have hi:jN d z p:=(ah z p (aL z (ld aD)) (aL p arM)).1 e
   have pW:z∈order d c5:=ld aD
   rw[iX k,iX k]
   have ar2:fi (d.aN p) (bC s i)∈order d c5:=Kb (xR aj aE p arM) _
   have eW:fi (d.aN z) (bC s i)∈order d c5:=Kb (xR aj aE z pW) _
   have Xl:c (fi (d.aN z) (bC s i))=c (fi (d.aN p) (bC s i)):=(ah _ _ (aL _ eW) (aL _ ar2)).2 (Xj hi _)
   have a7:fi ((quot d c c5).aN (((bX c (order d c5)).map c).idxOf (c p))) (bC s i)=((bX c (order d c5)).map c).idxOf (c (fi (d.aN p) (bC s i))):=by
    have:(quot d c c5).aN (((bX c (order d c5)).map c).idxOf (c p))=rowOf ((bX c (order d c5)).map c) (cS c (d.aN z)):=by
     unfold quot pC ao.aN
     dsimp only
     rw[List.getD_eq_getElem?_getD,List.getElem?_map,List.getElem?_eq_getElem ai]
     rw[List.getD_eq_getElem?_getD,List.getElem?_eq_getElem ai]at av
     have bT:(bX c (order d c5))[((bX c (order d c5)).map c).idxOf (c p)]=z:=av
     show rowOf _ (cS c (d.next.getD _ _))=_
     rw[bT]
    rw[this,Xi,Xh,Xl]
   rw[a7]
   exact ag _ _ (by omega) ar2
theorem Xm {c:Nat→Nat} {x:Nat} {X:List Nat}:∃t,bX c (x::X)=x::t:=by
 have h:bX c (x::X)=fO c [x] X:=rfl
 obtain⟨t,aK⟩:=IL c X [x]
 exact⟨t,by rw[h,←aK];rfl⟩
theorem Xn (d:ao) (s:Nat):∃t,order d s=s::t:=by
 obtain⟨t,aK⟩:=iS d.aN d.accept.length [s] 0
 exact⟨t,by unfold order;rw[←aK];rfl⟩
theorem yg {d:ao} (aj:d.ok) {q:Nat} (aE:q<d.accept.length) (s:ByteArray):et (cF d q) s=bB d (walk d s q 0):=by
 have h:=Xk aj aE (c:=ba (rounds d (d.accept.length+1) (dW d))) (fun x y U aA=>xQ aj (by omega) U aA) s (s.size-0) q 0 (Nat.le_refl _) (DP d q)
 have bH:((bX (ba (rounds d (d.accept.length+1) (dW d))) (order d q)).map (ba (rounds d (d.accept.length+1) (dW d)))).idxOf (ba (rounds d (d.accept.length+1) (dW d)) q)=0:=by
  obtain⟨t,aK⟩:=Xn d q
  rw[aK]
  obtain⟨bY,Xo⟩:=Xm (c:=ba (rounds d (d.accept.length+1) (dW d))) (x:=q) (X:=t)
  rw[Xo]
  simp
 rw[bH]at h
 exact h
theorem Xp (d:ao) (s w:ByteArray):∀(n q i:Nat),s.size-i≤n→i≤s.size→walk d (s++w) q i=walk d (s++w) (walk d s q i) s.size:=by
 intro n
 induction n with
 | zero=>
   intro q i h hi
   obtain rfl:i=s.size:=by omega
   rw[fx (s:=s) (by omega)]
 | succ n ag=>
   intro q i h hi
   by_cases k:i<s.size
   ·rw[iX (s:=s) k,iX (s:=s++w) (by rw[ByteArray.size_append];omega),JG s w k]
    exact ag _ _ (by omega) (by omega)
   ·obtain rfl:i=s.size:=by omega
    rw[fx (s:=s) (by omega)]
theorem Xq (d:ao) (s w:ByteArray):∀(n q i:Nat),w.size-i≤n→walk d (s++w) q (s.size+i)=walk d w q i:=by
 intro n
 induction n with
 | zero=>intro q i h;rw[fx (by rw[ByteArray.size_append];omega),fx (by omega)]
 | succ n ag=>
   intro q i h
   by_cases k:i<w.size
   ·have ad:=JH s w (i:=s.size+i) (by omega) (by rw[ByteArray.size_append];omega)
    have e:s.size+i-s.size=i:=by omega
    rw[e]at ad
    rw[iX (s:=w) k,iX (s:=s++w) (by rw[ByteArray.size_append];omega),ad]
    exact ag _ (i+1) (by omega)
   ·rw[fx (s:=w) k,fx (by rw[ByteArray.size_append];omega)]
theorem Ev (d:ao) (s w:ByteArray) (q:Nat):walk d (s++w) q 0=walk d w (walk d s q 0) 0:=by
 rw[Xp d s w (s.size-0) q 0 (Nat.le_refl _) (Nat.zero_le _)]
 exact Xq d s w (w.size-0) _ 0 (Nat.le_refl _)
theorem Xr (d:ao) (s w:ByteArray):∀(n q i:Nat),w.size-i≤n→walk (hX d s) w q i=walk d w q i:=by
 intro n
 induction n with
 | zero=>intro q i h;rw[fx (by omega),fx (by omega)]
 | succ n ag=>
   intro q i h
   by_cases k:i<w.size
   ·rw[iX k,iX k];exact ag _ _ (by omega)
   ·rw[fx k,fx k]
theorem Xs {d:ao} (arL:bG d) (s w:ByteArray):et (cF d (walk d s 0 0)) w=et d (s++w):=by
 rw[yg arL.ok (mQ arL.ok s _ 0 0 (Nat.le_refl _) arL.pos)]
 unfold et bB
 rw[Ev]
theorem Xt {d:ao} (arL:bG d) (s w:ByteArray):et (cF (hX d s) 0) w=et d (w++s):=by
 rw[yg (x5 arL.ok s) (by rw[qm];exact arL.pos)]
 have aL:=mQ arL.ok w _ 0 0 (Nat.le_refl _) arL.pos
 rw[Xr d s w _ 0 0 (Nat.le_refl _)]
 unfold et
 rw[Ev]
 unfold bB hX
 dsimp only
 rw[List.getD_eq_getElem?_getD,List.getElem?_map,List.getElem?_range aL]
 rfl
end Go.aB
namespace Go.aB
open Go
def rG (m:cD) (c:Int):List Int:=if c=97 then dy m.a else if c=98 then dy m.b else if c=99 then dy m.c else[c]
theorem Kd {m:cD} (hm:hD m=true) (c:Int):(rG m c).length≤3:=by
 obtain⟨⟨_,aO⟩,⟨_,ad⟩,⟨_,ah⟩⟩:=vB hm
 unfold rG
 split
 ·rw[lr];exact aO
 split
 ·rw[lr];exact ad
 split
 ·rw[lr];exact ah
 ·show 1≤3;decide
theorem Ke (m:cD) (s:ByteArray) {i:Nat} (h:i<s.size):dy (arV m s i)=rG m (bC s i):=by
 unfold arV rG
 split
 ·rfl
 split
 ·rfl
 split
 ·rfl
 ·exact J8 s h
theorem Kf {m:cD} (hm:hD m=true) (s:ByteArray) (al:s.size≤300000):dy (kP m s)=(dy s).flatMap (rG m):=by
 have h:=J9 (arV m s) s (rG m) 3 (fun i hi=>Ke m s hi) (fun i hi=>by
  rw[←lr,Ke m s hi]
  exact Kd hm _) s.size 0 ⟨#[]⟩ rfl (by show 0+s.size*3≤1048576;omega)
 unfold kP
 rw[h]
 rfl
def qp (d:ao) (q:Nat) (c:Int):Nat:=fi (d.aN q) c
theorem Xu (d:ao) (s:ByteArray):∀(n q i:Nat),s.size-i=n→walk d s q i=((dy s).drop i).foldl (qp d) q:=by
 intro n
 induction n with
 | zero=>
   intro q i h
   rw[fx (by omega),List.drop_of_length_le (by rw[lr];omega)]
   rfl
 | succ n ag=>
   intro q i h
   have hi:i<s.size:=by omega
   have ai:i<(dy s).length:=by rw[lr];exact hi
   have av:(dy s)[i]=bC s i:=by
    have:=qo s hi
    rw[List.getElem?_eq_getElem ai]at this
    exact Option.some.inj this
   rw[iX hi,List.drop_eq_getElem_cons ai,av,ag _ _ (by omega)]
   rfl
theorem yh (d:ao) (s:ByteArray) (q:Nat):walk d s q 0=(dy s).foldl (qp d) q:=Xu d s s.size q 0 rfl
theorem Xv {d:ao} (m:cD) {q:Nat} (h:q<d.accept.length):(fQ d m).aN q=hj d m q:=by
 unfold fQ ao.aN
 dsimp only
 rw[List.getD_eq_getElem?_getD,List.getElem?_map,List.getElem?_range h]
 rfl
theorem Xw {d:ao} (m:cD) {q:Nat} (h:q<d.accept.length) {c:Int} (ah:gL c=true):qp (fQ d m) q c=(rG m c).foldl (qp d) q:=by
 unfold qp
 rw[Xv m h]
 rcases AR ah with rfl | rfl | rfl
 ·exact yh d m.a q
 ·exact yh d m.b q
 ·exact yh d m.c q
theorem Xx {d:ao} (aj:d.ok) {q:Nat} (h:q<d.accept.length) (c:Int):qp d q c<d.accept.length:=x4 aj h c
theorem Xy {d:ao} (arL:bG d) (m:cD):∀(l:List Int) (q:Nat),(∀c∈l,gL c=true)→q<d.accept.length→l.foldl (qp (fQ d m)) q=(l.flatMap (rG m)).foldl (qp d) q:=by
 intro l
 induction l with
 | nil=>intro q _ _;rfl
 | cons c l ag=>
   intro q ai aE
   have aL:qp (fQ d m) q c<d.accept.length:=Xx (yb arL m).ok aE c
   rw[List.foldl_cons,List.flatMap_cons,List.foldl_append,←Xw m aE (ai c (List.mem_cons_self ..))]
   exact ag _ (fun bJ ah=>ai bJ (List.mem_cons_of_mem _ ah)) aL
theorem Xz {s:ByteArray} (h:dx s):∀c∈dy s,gL c=true:=by
 rw[←Xf gL s,Eu gL s _ 0 (Nat.le_refl _)]
 exact fun j _ au=>h j au
theorem Ew {s:ByteArray} (h:dx s) (aD:s.size≤30):isWord s=true:=by
 unfold isWord
 rw[Bool.and_eq_true,decide_eq_true_eq,Eu gL s _ 0 (Nat.le_refl _)]
 exact⟨aD,fun j _ au=>h j au⟩
theorem XA {g:Int→List Int} {k:Nat} (h:∀c,(g c).length≤k):∀l:List Int,(l.flatMap g).length≤k*l.length:=by
 intro l
 induction l with
 | nil=>exact Nat.zero_le _
 | cons c l ag=>
   rw[List.flatMap_cons,List.length_append,List.length_cons,Nat.mul_succ]
   have:=h c
   omega
theorem XB {m:cD} (hm:hD m=true) {s:ByteArray} (al:s.size≤300000):(kP m s).size≤3*s.size:=by
 rw[←lr,Kf hm s al,←lr]
 exact XA (Kd hm) _
theorem XC {d:ao} (arL:bG d) {m:cD} (hm:hD m=true) {w:ByteArray} (hw:dx w) (aD:w.size≤300000):et (cF (fQ d m) 0) w=et d (kP m w):=by
 have arM:=yb arL m
 rw[yg arM.ok arM.pos,yh,Xy arL m _ _ (Xz hw) arL.pos,←Kf hm w aD,←yh]
 rfl
def arj (f g:cD):cD:=⟨kP g f.a,kP g f.b,kP g f.c⟩
end Go.aB
