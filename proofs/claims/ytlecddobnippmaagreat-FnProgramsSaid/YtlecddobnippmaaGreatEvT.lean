/- Languages: products, complements, shortest words. An argument that reads as data, as a tree. -/
import Derived.OpenShut
import Derived.ProofKit
import Derived.ChangeOld
import Derived.DataReads
import Derived.Test.YtlecddobnippmaaGreatEvS
import Derived.Test.YtlecddobnippmaaGreatEvR
import Derived.Test.YtlecddobnippmaaGreatEvN
import Derived.Test.YtlecddobnippmaaGreatEvO
set_option linter.unusedVariables false
set_option linter.unusedSimpArgs false
namespace Go.aB
open Go
def vO {α:Type} (t:α×α×α) (c:Int):α:=if c=97 then t.1 else if c=98 then t.2.1 else t.2.2
theorem Kg {α:Type} [DecidableEq α] {L:List α} {x:α} (h:x∈L):∃k:cm L x<L.length,L[cm L x]=x:=by
 refine⟨AH h,?_⟩
 unfold cm
 exact List.getElem_idxOf _
theorem XD {α:Type} [DecidableEq α] (L:List α) (t:α×α×α) (c:Int):fi (kJ L t) c=cm L (vO t c):=by
 unfold fi vO kJ
 split
 ·rfl
 split<;>rfl
theorem Kh (a b:ao) (x:Nat×Nat) (c:Int):vO (ik a b x) c=(fi (a.aN x.1) c,fi (b.aN x.2) c):=by
 unfold vO fi ik
 split
 ·rfl
 split<;>rfl
theorem XE {α:Type} {t:α×α×α} {L:List α} (h:t.1∈L∧t.2.1∈L∧t.2.2∈L) (c:Int):vO t c∈L:=by
 unfold vO
 split
 ·exact h.1
 split
 ·exact h.2.1
 ·exact h.2.2
theorem XF {a b:ao} (aO:bG a) (ad:bG b) (k:Int) (s:ByteArray):∀(n i:Nat) (x:Nat×Nat),s.size-i≤n→x∈kM a b→(walk a s x.1 i,walk b s x.2 i)∈kM a b∧walk (gQ k a b) s (cm (kM a b) x) i=cm (kM a b) (walk a s x.1 i,walk b s x.2 i):=by
 intro n
 induction n with
 | zero=>
   intro i x h U
   rw[fx (by omega),fx (by omega),fx (by omega)]
   exact⟨U,rfl⟩
 | succ n ag=>
   intro i x h U
   by_cases hi:i<s.size
   rotate_left
   ·rw[fx hi,fx hi,fx hi]
    exact⟨U,rfl⟩
   have ah:=DY (xY aO ad) x U
   have hm:=XE ah (bC s i)
   rw[Kh]at hm
   obtain⟨J,aa⟩:=ag (i+1) _ (by omega) hm
   rw[iX (d:=a) hi,iX (d:=b) hi,iX (d:=gQ k a b) hi]
   refine⟨J,?_⟩
   obtain⟨ai,he⟩:=Kg U
   have aC:(gQ k a b).aN (cm (kM a b) x)=kJ (kM a b) (ik a b x):=by
    unfold gQ er ao.aN
    dsimp only
    rw[List.getD_eq_getElem?_getD,List.getElem?_map,List.getElem?_eq_getElem ai,he]
    rfl
   rw[aC,XD,Kh]
   exact aa
theorem XG (a b:ao):∃t,kM a b=(0,0)::t:=by
 obtain⟨t,aK⟩:=iS (ik a b) 1601 [(0,0)] 0
 exact⟨t,aK.symm⟩
theorem XH {a b:ao} (aO:bG a) (ad:bG b) (s:ByteArray):et (gQ 6 a b) s=(et a s||et b s):=by
 obtain⟨t,aK⟩:=XG a b
 have bn:((0:Nat),(0:Nat))∈kM a b:=by rw[aK];exact List.mem_cons_self ..
 have bH:cm (kM a b) (0,0)=0:=by rw[aK];unfold cm;simp
 obtain⟨J,aa⟩:=XF aO ad 6 s s.size 0 (0,0) (by omega) bn
 rw[bH]at aa
 obtain⟨ai,he⟩:=Kg J
 unfold et
 rw[aa]
 unfold gQ er
 dsimp only
 rw[List.getD_eq_getElem?_getD,List.getElem?_map]
 rw[List.getElem?_eq_getElem ai,he]
 rfl
theorem XI {d e:ao} (aj:d.ok) (arM:1≤d.accept.length) (h:fw d=some e) (s:ByteArray):et e s=et d s:=by
 unfold fw at h
 split at h
 ·cases h
  rw[yg aj (by omega)]
  rfl
 ·cases h
theorem XJ {d:ao} (h:bG d) (s:ByteArray):et (cF d 0) s=et d s:=by
 rw[yg h.ok (by have:=h.pos;omega)]
 rfl
theorem XK (d:ao) (s:ByteArray):∀(n q i:Nat),s.size-i≤n→walk (dY d) s q i=walk d s q i:=by
 intro n
 induction n with
 | zero=>intro q i h;rw[fx (by omega),fx (by omega)]
 | succ n ag=>
   intro q i h
   by_cases hi:i<s.size
   ·rw[iX hi,iX (d:=d) hi]
    exact ag _ _ (by omega)
   ·rw[fx hi,fx hi]
theorem XL {d:ao} (h:bG d) (s:ByteArray):et (dY d) s=!et d s:=by
 show bB (dY d) (walk (dY d) s 0 0)=!bB d (walk d s 0 0)
 rw[XK d s _ 0 0 (Nat.le_refl _)]
 exact AP (mQ h.ok s _ 0 0 (Nat.le_refl _) (by have:=h.pos;omega))
structure ts (d:ao) (p:gq):Prop where
 nt:p.1.Nodup
 lt:∀y∈p.1,y<d.accept.length
 len:p.2.length=p.1.length
 hF:∀j,j<p.1.length→walk d (p.2.getD j ⟨#[]⟩) 0 0=p.1.getD j 0
 sz:∀w∈p.2,w.size+1≤p.1.length
theorem XM {l:List Nat} {i:Nat} (h:i<l.length):l.getD i 0∈l:=by
 rw[List.getD_eq_getElem?_getD,List.getElem?_eq_getElem h]
 exact List.getElem_mem h
theorem XN {d:ao} {p:gq} {q:Nat} {w:ByteArray} (h:ts d p) (aE:q<d.accept.length) (hw:walk d w 0 0=q) (aD:w.size≤p.1.length):ts d (kR p q w):=by
 have av:=fun i (hi:i<p.1.length)=>Eo p q w hi h.len
 unfold kR at av⊢
 split
 ·exact h
 rename_i aC
 rw[if_neg aC]at av
 refine⟨List.nodup_append.2 ⟨h.nt,by simp,fun a aO b ad e=>aC (by rw[List.mem_singleton.1 ad]at e;exact e▸aO)⟩,fun y aA=>?_,by simp[h.len],fun j au=>?_,fun v arL=>?_⟩
 ·rcases List.mem_append.1 aA with aA | aA
  ·exact h.lt y aA
  ·rw[List.mem_singleton.1 aA];exact aE
 ·by_cases ny:j<p.1.length
  ·rw[(av j ny).1,(av j ny).2]
   exact h.hF j ny
  ·have uI:j=p.1.length:=by
    rw[List.length_append]at au
    simp only[List.length_cons,List.length_nil]at au
    omega
   subst uI
   simp only[List.getD_eq_getElem?_getD]
   rw[List.getElem?_append_right (by rw[h.len];exact Nat.le_refl _),List.getElem?_append_right (Nat.le_refl _),h.len]
   simpa using hw
 ·rw[List.length_append]
  show v.size+1≤p.1.length+1
  rcases List.mem_append.1 arL with arL | arL
  ·have:=h.sz v arL;omega
  ·rw[List.mem_singleton.1 arL];omega
theorem XO (p:gq) (q:Nat) (w:ByteArray):∀y∈p.1,y∈(kR p q w).1:=by
 intro y aA
 unfold kR
 split
 ·exact aA
 ·exact List.mem_append_left _ aA
theorem XP (p:gq) (q:Nat) (w:ByteArray):q∈(kR p q w).1:=by
 unfold kR
 split
 ·assumption
 ·exact List.mem_append_right _ (List.mem_singleton.2 rfl)
theorem XQ (d:ao) (q:Nat) {k:Nat} (ay:k<3):walk d (lp k) q 0=ko (d.aN q) k:=by
 have al:=AY ay
 rw[iX (by omega),fx (by omega)]
 obtain rfl | rfl | rfl:k=0∨k=1∨k=2:=by omega
 all_goals rfl
theorem Ex {d:ao} (aj:d.ok) {p:gq} (h:ts d p) {i k:Nat} (hi:i<p.1.length) (ay:k<3):ts d (lq d i p k)∧(∀y∈p.1,y∈(lq d i p k).1)∧ko (d.aN (p.1.getD i 0)) k∈(lq d i p k).1∧p.1.length≤(lq d i p k).1.length∧∀j,j<p.1.length→(lq d i p k).1.getD j 0=p.1.getD j 0:=by
 unfold lq
 refine⟨XN h (Ep aj (h.lt _ (XM hi)) k) ?_ (by
  have ai:i<p.2.length:=by rw[h.len];exact hi
  have:=h.sz _ (List.getElem_mem ai)
  rw[ByteArray.size_append,AY ay,List.getD_eq_getElem?_getD,List.getElem?_eq_getElem ai]
  exact this),XO _ _ _,XP _ _ _,JY _ _ _,fun j au=>(Eo _ _ _ au h.len).1⟩
 rw[Ev,h.hF i hi,XQ d _ ay]
theorem XR {d:ao} (aj:d.ok) {p:gq} (h:ts d p) {i:Nat} (hi:i<p.1.length):ts d (nF d i p)∧(∀y∈p.1,y∈(nF d i p).1)∧(∀k,k<3→ko (d.aN (p.1.getD i 0)) k∈(nF d i p).1)∧p.1.length≤(nF d i p).1.length∧∀j,j<p.1.length→(nF d i p).1.getD j 0=p.1.getD j 0:=by
 obtain⟨aT,a2,a3,a4,a5⟩:=Ex aj h hi (k:=0) (by omega)
 obtain⟨bU,cv,dn,ed,gm⟩:=Ex aj aT (Nat.lt_of_lt_of_le hi a4) (k:=1) (by omega)
 obtain⟨c4,cu,cS,n3,hc⟩:=Ex aj bU (Nat.lt_of_lt_of_le hi (Nat.le_trans a4 ed)) (k:=2) (by omega)
 unfold nF
 rw[gm _ (by omega),a5 _ hi]at cS
 rw[a5 _ hi]at dn
 refine⟨c4,fun y aA=>cu _ (cv _ (a2 _ aA)),fun k ay=>?_,by omega,fun j au=>by rw[hc _ (by omega),gm _ (by omega),a5 _ au]⟩
 obtain rfl | rfl | rfl:k=0∨k=1∨k=2:=by omega
 ·exact cu _ (cv _ a3)
 ·exact cu _ dn
 ·exact cS
theorem XS {d:ao} {L:List Nat} (cK:∀q∈L,∀k,k<3→ko (d.aN q) k∈L) (s:ByteArray):∀(n q i:Nat),s.size-i≤n→q∈L→walk d s q i∈L:=by
 intro n
 induction n with
 | zero=>intro q i h aE;rw[fx (by omega)];exact aE
 | succ n ag=>
   intro q i h aE
   by_cases hi:i<s.size
   ·rw[iX hi]
    refine ag _ _ (by omega) ?_
    unfold fi
    split
    ·exact cK q aE 0 (by omega)
    split
    ·exact cK q aE 1 (by omega)
    ·exact cK q aE 2 (by omega)
   ·rw[fx hi];exact aE
theorem XT {d:ao} (aj:d.ok):∀(f i:Nat) (p:gq),ts d p→0∈p.1→i≤p.1.length→d.accept.length+1≤f+i→(∀j,j<i→bB d (p.1.getD j 0)=false∧∀k,k<3→ko (d.aN (p.1.getD j 0)) k∈p.1)→
 (∀w,mS d f i p=some w→et d w=true∧w.size≤d.accept.length)∧(mS d f i p=none→∀s,et d s=false):=by
 intro f
 induction f with
 | zero=>
   intro i p ic bn hi aJ au
   have:=nv ic.nt ic.lt
   omega
 | succ f ag=>
   intro i p ic bn hi aJ au
   by_cases h:i<p.1.length
   rotate_left
   ·rw[JZ h]
    refine⟨fun w e=>(nomatch e),fun _ s=>?_⟩
    have hm:=XS (d:=d) (L:=p.1) (fun q aE k ay=>by
     obtain⟨j,ny,rfl⟩:=List.getElem_of_mem aE
     have:=(au j (by omega)).2 k ay
     rw[List.getD_eq_getElem?_getD,List.getElem?_eq_getElem ny]at this
     exact this) s s.size 0 0 (by omega) bn
    obtain⟨j,ny,e⟩:=List.getElem_of_mem hm
    have:=(au j (by omega)).1
    rw[List.getD_eq_getElem?_getD,List.getElem?_eq_getElem ny]at this
    show bB d (walk d s 0 0)=false
    rw[←e]
    exact this
   cases aO:bB d (p.1.getD i 0)
   ·rw[J1 h aO]
    obtain⟨c4,cu,cS,n3,hc⟩:=XR aj ic h
    refine ag _ _ c4 (cu _ bn) (by omega) (by omega) fun j jm=>?_
    rw[hc _ (by omega)]
    by_cases Ki:j<i
    ·exact⟨(au j Ki).1,fun k ay=>cu _ ((au j Ki).2 k ay)⟩
    ·obtain rfl:j=i:=by omega
     exact⟨aO,cS⟩
   ·rw[J0 h aO]
    refine⟨fun w e=>?_,fun e=>(nomatch e)⟩
    cases e
    refine⟨?_,?_⟩
    ·show bB d (walk d _ 0 0)=true
     rw[ic.hF i h]
     exact aO
    ·have ai:i<p.2.length:=by rw[ic.len];exact h
     have J:=ic.sz _ (List.getElem_mem ai)
     have aa:=nv ic.nt ic.lt
     rw[List.getD_eq_getElem?_getD,List.getElem?_eq_getElem ai]
     show(p.2[i]).size≤_
     omega
theorem Kj {d:ao} (h:bG d):(∀w,pH d=some w→et d w=true∧w.size≤d.accept.length)∧(pH d=none→∀s,et d s=false):=by
 have arM:=h.pos
 exact XT h.ok _ 0 _ ⟨by simp,by intro y aA;rw[List.mem_singleton.1 aA];omega,rfl,fun j au=>by
  have:j=0:=by have:j<1:=au;omega
  subst this
  exact fx (by decide),by intro w hw;rw[List.mem_singleton.1 hw];exact Nat.le_refl _⟩ (by simp) (by omega) (by omega) fun j au=>by omega
end Go.aB
namespace Go.aB
open Go Go.RowKit
def me (P:Program):Nat→TypeId→List V→Prop
 | 0,_,_=>False
 | n+1,t,vs=>match P.underlying t with
   | some .bool=>∃b,vs=[.bool b]
   | some (.int k)=>∃m,vs=[.int k m]∧(Lit.int k m).wf=true
   | some .string=>∃s,vs=[.str s]∧s.size≤maxLen
   | some (.slice e)=>∃l,vs=[.slc false (P.cellsOf e) l]∧l.length≤maxLen∧∀x∈l,∃us,x=pack (isAgg P e) us∧me P n e us∧us.length=P.cellsOf e
   | some (.struct bW)=>vs.length=P.cellsOf t∧∀f∈bW.toList,me P n f.type ((vs.drop f.offset).take (P.cellsOf f.type))
   | _=>False
def yi (P:Program):Nat→List Field→Nat→Bool
 | n,[],m=>n==m
 | n,f::bW,m=>f.offset==n&&P.cellsOf f.type != 0&&yi P (n+P.cellsOf f.type) bW m
def Kk (P:Program) (L:List TypeId):Bool:=L.all fun t=>match P.underlying t with
 | some .bool | some (.int _) | some .string=>P.cellsOf t==1
 | some (.slice e)=>P.cellsOf t==1&&aG e L&&P.cellsOf e != 0&&(isAgg P e||P.cellsOf e==1)
 | some (.struct bW)=>bW.toList.all (fun f=>aG f.type L)&&yi P 0 bW.toList (P.cellsOf t)
 | _=>false
theorem Ey:∀{l:List Nat} {n:Nat},aG n l=true→n∈l:=by
 intro l
 induction l with
 | nil=>intro n h;cases h
 | cons a l ag=>
   intro n h
   unfold aG at h
   split at h
   ·rename_i e;subst e;exact List.mem_cons_self ..
   ·exact List.mem_cons_of_mem _ (ag h)
abbrev yj (W:World) (v:V) (c:Value):Prop:=aH (fun g j=>W.cell? ⟨g,j,none⟩) (fun _ _=>none) v c
def lx (W:World) (vs:List V) (cs:List Value):Prop:=vs.length=cs.length∧vs.all bM=true∧∀j,j<vs.length→yj W (vs.getD j .undef) (cs.getD j Go.undef)
theorem lx.append {W:World} {a b:List V} {c d:List Value} (h:lx W a c) (aZ:lx W b d):lx W (a++b) (c++d):=by
 obtain⟨J,aa,ar⟩:=h
 obtain⟨aq,aF,aW⟩:=aZ
 refine⟨by simp[J,aq],by simp[List.all_append,aa,aF],fun j au=>?_⟩
 simp only[List.getD_eq_getElem?_getD]at ar aW⊢
 by_cases ai:j<a.length
 ·rw[List.getElem?_append_left ai,List.getElem?_append_left (by omega)]
  exact ar j ai
 ·rw[List.getElem?_append_right (by omega),List.getElem?_append_right (by omega),←J]
  simp only[List.length_append]at au
  exact aW _ (by omega)
theorem XU {P:Program} {W:World} {Q:Field→List V→Prop} {m:Nat} {cs:List Value} (hm:cs.length=m):∀(bW:List Field) (n:Nat),yi P n bW m=true→n≤m→
 (∀f∈bW,∃us,Q f us∧us.length=P.cellsOf f.type∧lx W us ((cs.drop f.offset).take (P.cellsOf f.type)))→
 ∃vs,n+vs.length=m∧lx W vs (cs.drop n)∧∀f∈bW,n≤f.offset∧Q f ((vs.drop (f.offset-n)).take (P.cellsOf f.type)):=by
 intro bW
 induction bW with
 | nil=>
   intro n aK aC _
   have:n=m:=by simpa[yi]using aK
   subst this
   refine⟨[],rfl,?_,fun f aJ=>by cases aJ⟩
   rw[List.drop_eq_nil_of_le (by omega)]
   exact⟨rfl,rfl,fun j au=>by cases au⟩
 | cons f bW ag=>
   intro n aK aC h
   simp only[yi,Bool.and_eq_true,beq_iff_eq]at aK
   obtain⟨⟨aj,bn⟩,aK⟩:=aK
   obtain⟨us,aE,ai,aI⟩:=h f (List.mem_cons_self ..)
   have hle:n+P.cellsOf f.type≤m:=by
    have:=aI.1
    rw[ai,List.length_take,List.length_drop,aj,hm]at this
    omega
   obtain⟨vs,arL,hw,aJ⟩:=ag _ aK hle (fun g av=>h g (List.mem_cons_of_mem _ av))
   refine⟨us++vs,by rw[List.length_append];omega,?_,?_⟩
   ·have:cs.drop n=(cs.drop n).take (P.cellsOf f.type)++cs.drop (n+P.cellsOf f.type):=by
     rw[←List.drop_drop,List.take_append_drop]
    rw[this]
    rw[aj]at aI
    exact aI.append hw
   ·intro g av
    rcases List.mem_cons.1 av with rfl | av
    ·refine⟨by omega,?_⟩
     rw[aj,Nat.sub_self,List.drop_zero,←ai,List.take_left]
     exact aE
    ·obtain⟨J,aa⟩:=aJ g av
     refine⟨by omega,?_⟩
     have:(us++vs).drop (g.offset-n)=vs.drop (g.offset-(n+P.cellsOf f.type)):=by
      rw[List.drop_append]
      rw[List.drop_eq_nil_of_le (by omega),List.nil_append]
      congr 1
      omega
     rw[this]
     exact aa
theorem Kl {α:Type} {p:Nat→α→Prop}:∀n,(∀i,i<n→∃a,p i a)→∃xs:List α,xs.length=n∧∀i a,xs[i]?=some a→p i a
 | 0,_=>⟨[],rfl,fun i a h=>by simp at h⟩
 | n+1,h=>by
   obtain⟨xs,ai,U⟩:=Kl n (fun i hi=>h i (by omega))
   obtain⟨a,aO⟩:=h n (by omega)
   refine⟨xs++[a],by simp[ai],fun i b ad=>?_⟩
   by_cases hi:i<n
   ·rw[List.getElem?_append_left (by omega)]at ad
    exact U i b ad
   ·have aL:i<(xs++[a]).length:=by
     rcases Nat.lt_or_ge i (xs++[a]).length with J | J
     ·exact J
     ·rw[List.getElem?_eq_none J]at ad;cases ad
    have:i=n:=by simp[ai]at aL;omega
    subst this
    rw[List.getElem?_append_right (by omega)]at ad
    simp[ai]at ad
    exact ad▸aO
theorem XV {b:Bool} {us:List V} (h:b=true∨us.length=1) (arM:us.all bM=true):(pack b us).flat=us:=by
 unfold pack
 split
 ·rfl
 ·rcases h with h | h
  ·rename_i e;exact absurd h e
  ·match us,h with
   | [u],_=>
     simp only[List.all_cons,List.all_nil,Bool.and_true]at arM
     cases u<;>first | rfl | cases arM
section
variable {H:Type} {enc:TypeId×Value→H} {P:Program} {W:World} {sp:Nat→Bool} {L:List TypeId}
theorem XW (cK:Kk P L=true):∀(fuel:Nat) (t:TypeId) (cs:List Value) (x:DataW H×List MemPlace),t∈L→DataW.trod enc P W 0 sp true fuel t cs=some x→
 ∃vs,me P fuel t vs∧vs.length=P.cellsOf t∧lx W vs cs:=by
 intro fuel
 induction fuel with
 | zero=>intro t cs x _ h;simp[DataW.trod]at h
 | succ fuel ag=>
   intro t cs x aK U
   have ah:=List.all_eq_true.1 cK t aK
   have one:∀{v:V} {c:Value},bM v=true→yj W v c→lx W [v] [c]:=by
    intro v c arM arL
    refine⟨rfl,by simp[arM],fun j au=>?_⟩
    have:j=0:=by simpa using au
    subst this
    exact arL
   simp only[me]
   revert ah
   cases hu:P.underlying t with
   | none=>intro ah;cases ah
   | some b6=>
     cases b6 with
     | bool=>
       intro ah
       simp only[DataW.trod,hu]at U
       dsimp only at ah⊢
       have oa:P.cellsOf t=1:=by simpa using ah
       rcases cs with _ | ⟨c,_ | ⟨cu,cs⟩⟩
       ·simp at U
       ·cases c<;>simp at U
        rename_i b
        exact⟨[.bool b],⟨b,rfl⟩,oa.symm,one rfl (.bool b)⟩
       ·simp at U
     | int k=>
       intro ah
       simp only[DataW.trod,hu]at U
       dsimp only at ah⊢
       have oa:P.cellsOf t=1:=by simpa using ah
       rcases cs with _ | ⟨c,_ | ⟨cu,cs⟩⟩
       ·simp at U
       ·cases c<;>simp at U
        rename_i bI n
        obtain⟨⟨rfl,hw⟩,_⟩:=U
        exact⟨[.int bI n],⟨n,rfl,hw⟩,oa.symm,one rfl (.int bI n)⟩
       ·simp at U
     | string=>
       intro ah
       simp only[DataW.trod,hu]at U
       dsimp only at ah⊢
       have oa:P.cellsOf t=1:=by simpa using ah
       rcases cs with _ | ⟨c,_ | ⟨cu,cs⟩⟩
       ·simp at U
       ·cases c<;>simp at U
        rename_i s
        exact⟨[.str s],⟨s,rfl,U.1⟩,oa.symm,one rfl (.str s)⟩
       ·simp at U
     | struct bW=>
       intro ah
       simp only[DataW.trod,hu]at U
       dsimp only at ah⊢
       simp only[Bool.and_eq_true]at ah
       obtain⟨fm,vP⟩:=ah
       split at U
       ·rename_i ai
        simp only[Option.map_eq_some_iff]at U
        obtain⟨xs,my,_⟩:=U
        have fE:∀f∈bW.toList,∃us,me P fuel f.type us∧us.length=P.cellsOf f.type∧lx W us ((cs.drop f.offset).take (P.cellsOf f.type)):=by
         intro f aJ
         obtain⟨i,hi,yk⟩:=List.getElem_of_mem aJ
         have J:=mapM_some_get my i f (by rw[List.getElem?_eq_getElem hi,yk])
         have aa:=mapM_some_length my
         rw[List.getElem?_eq_getElem (by omega)]at J
         exact ag _ _ _ (Ey (List.all_eq_true.1 fm f aJ)) J
        obtain⟨vs,J,aa,ar⟩:=XU (Q:=fun f us=>me P fuel f.type us) ai bW.toList 0 vP (Nat.zero_le _) fE
        refine⟨vs,⟨by omega,fun f aJ=>?_⟩,by omega,by simpa using aa⟩
        have:=(ar f aJ).2
        simpa using this
       ·cases U
     | slice e=>
       intro ah
       simp only[DataW.trod,hu]at U
       dsimp only at ah⊢
       simp only[Bool.and_eq_true,Bool.or_eq_true,beq_iff_eq,bne_iff_ne,ne_eq]at ah
       obtain⟨⟨⟨oa,XX⟩,aY⟩,ft⟩:=ah
       split at U
       all_goals (try(exfalso;simp_all;done))
       all_goals (try(rename_i heq;simp at heq;done))
       ·rename_i heq
        refine⟨[.slc false (P.cellsOf e) []],⟨[],rfl,Nat.zero_le _,fun x U=>by cases U⟩,oa.symm,one rfl (.h5 ..)⟩
       ·rename_i cc a len cap CM
        have sg:cc=e:=by simpa using CM.symm
        subst sg
        split at U
        ·rename_i ad
         obtain⟨_,jk,fL⟩:=ad
         simp only[Option.bind_eq_some_iff]at U
         obtain⟨elems,jF,_⟩:=U
         have aa:elems.length=len:=by have:=mapM_some_length jF;simpa using this
         have fE:∀i,i<len→∃us:List V,∃cs:List Value,W.cells? 0 (a.add (i*P.cellsOf cc)) (P.cellsOf cc)=some cs∧me P fuel cc us∧us.length=P.cellsOf cc∧lx W us cs:=by
          intro i hi
          have J:=mapM_some_get jF i i (by simp[hi])
          rw[List.getElem?_eq_getElem (by omega)]at J
          simp only[Option.bind_eq_some_iff]at J
          obtain⟨cs,en,aA⟩:=J
          obtain⟨us,ar,aP,bf⟩:=ag _ _ _ (Ey XX) aA
          exact⟨us,cs,en,ar,aP,bf⟩
         obtain⟨xs,ai,my⟩:=Kl len fE
         subst ai
         by_cases bn:xs.length=0
         ·have:xs=[]:=List.length_eq_zero_iff.1 bn
          subst this
          exact⟨[.slc false (P.cellsOf cc) []],⟨[],rfl,Nat.zero_le _,fun x U=>by cases U⟩,oa.symm,one rfl (.h5 ..)⟩
         ·have pY:∀i us,xs[i]?=some us→∀j,j<P.cellsOf cc→∃c,W.cell? ((a.add (i*P.cellsOf cc)).add j)=some c∧yj W (us.getD j .undef) c:=by
           intro i us hi j au
           obtain⟨cs,en,ar,aP,bf⟩:=my i us hi
           unfold World.cells? at en
           simp at en
           have b4:=mapM_some_length en
           have J:=mapM_some_get en j j (by simp[au])
           have di:j<cs.length:=by simpa[b4]using au
           rw[List.getElem?_eq_getElem di]at J
           refine⟨_,J,?_⟩
           have:=bf.2.2 j (by omega)
           simpa[List.getD_eq_getElem?_getD,List.getElem?_eq_getElem di]using this
          have Km:a.spot=none:=by
           obtain⟨us,tt⟩:∃us,xs[0]?=some us:=⟨_,List.getElem?_eq_getElem (by omega)⟩
           obtain⟨c,J,_⟩:=pY 0 us tt 0 (by omega)
           have:=World.cell?_spot J
           simpa[Addr.add]using this
          obtain⟨A2,A3,ark⟩:=a
          dsimp only at Km
          subst Km
          have Kn:∀i j,(Addr.add (Addr.add ⟨A2,A3,none⟩ (i*P.cellsOf cc)) j)=⟨A2,A3+i*P.cellsOf cc+j,none⟩:=by
           intro i j
           unfold Addr.add
           split
           ·rename_i au;subst au
            split
            ·rename_i hi;simp[hi]
            ·rfl
           ·split
            ·rename_i hi;simp[hi]
            ·rfl
          have fs:∀us∈xs,us.length=P.cellsOf cc∧us.all bM=true∧(pack (isAgg P cc) us).flat=us:=by
           intro us tt
           obtain⟨i,hi,yk⟩:=List.getElem_of_mem tt
           obtain⟨cs,en,ar,aP,bf⟩:=my i us (by rw[List.getElem?_eq_getElem hi,yk])
           refine⟨aP,bf.2.1,XV ?_ bf.2.1⟩
           rcases ft with h | h
           ·exact .inl h
           ·exact .inr (by omega)
          have mU:∀i (hi:i<xs.length),((xs.map (pack (isAgg P cc))).getD i .undef).flat=xs[i]:=by
           intro i hi
           simp only[List.getD_eq_getElem?_getD,List.getElem?_map,List.getElem?_eq_getElem hi,Option.map_some,Option.getD_some]
           exact(fs _ (List.getElem_mem hi)).2.2
          refine⟨[.slc false (P.cellsOf cc) (xs.map (pack (isAgg P cc)))],⟨_,rfl,by simp only[List.length_map];omega,?_⟩,oa.symm,?_⟩
          ·intro v arL
           obtain⟨us,tt,rfl⟩:=List.mem_map.1 arL
           obtain⟨i,hi,yk⟩:=List.getElem_of_mem tt
           obtain⟨cs,en,ar,aP,bf⟩:=my i us (by rw[List.getElem?_eq_getElem hi,yk])
           exact⟨us,rfl,ar,aP⟩
          ·have hlen:(xs.map (pack (isAgg P cc))).length=xs.length:=List.length_map ..
           have key:=aH.slc (S:=fun g j=>W.cell? ⟨g,j,none⟩) (β:=fun _ _=>none) (P.cellsOf cc) (xs.map (pack (isAgg P cc))) A2 A3 cap
            (fun i j=>(W.cell? ⟨A2,A3+i*P.cellsOf cc+j,none⟩).getD Go.undef) (by omega)
            (by
             intro v arL
             obtain⟨us,tt,rfl⟩:=List.mem_map.1 arL
             obtain⟨J,aa,ar⟩:=fs us tt
             rw[ar]
             exact⟨J,aa⟩)
            (by
             intro i j hi au
             rw[hlen]at hi
             obtain⟨c,J,_⟩:=pY i xs[i] (List.getElem?_eq_getElem hi) j au
             rw[Kn]at J
             rw[J]
             rfl)
            (by
             intro i j hi au
             rw[hlen]at hi
             obtain⟨c,J,aa⟩:=pY i xs[i] (List.getElem?_eq_getElem hi) j au
             rw[Kn]at J
             rw[J,mU i hi]
             exact aa)
           rw[hlen]at key
           exact one rfl key
        ·cases U
     | _=>intro ah;cases ah
end
def fieldsOf (P:Program) (t:TypeId):Option (List (TypeId×Nat)):=match P.underlying t with
 | some (.struct bW)=>some (bW.toList.map fun f=>(f.type,f.offset))
 | _=>none
theorem XY {P:Program} {t:TypeId} {n:Nat} {vs:List V} {k:IntKind} (hu:P.underlying t=some (.int k)) (h:me P n t vs):∃m,vs=[.int k m]∧(Lit.int k m).wf=true:=by
 cases n with
 | zero=>cases h
 | succ n=>simpa only[me,hu]using h
theorem XZ {α:Type} {f:α→V}:∀{l:List V},(∀x∈l,∃a:α,x=f a∧Ac (f a))→∃as:List α,l=as.map f∧sW (as.map f):=by
 intro l
 induction l with
 | nil=>intro _;exact⟨[],rfl,trivial⟩
 | cons b l ag=>
   intro h
   obtain⟨a,rfl,aO⟩:=h b (List.mem_cons_self ..)
   obtain⟨as,rfl,al⟩:=ag fun x U=>h x (List.mem_cons_of_mem _ U)
   exact⟨a::as,rfl,aO,al⟩
theorem asl {P:Program} {t e:TypeId} {n:Nat} {vs:List V} {α:Type} {f:α→V} (hu:P.underlying t=some (.slice e)) (he:∀us,me P n e us→∃a:α,pack (isAgg P e) us=f a∧Ac (f a)) (h:me P (n+1) t vs):
 ∃l:List α,vs=[.slc false (P.cellsOf e) (l.map f)]∧l.length≤9223372036854775807∧sW (l.map f):=by
 simp only[me,hu]at h
 obtain⟨l,rfl,ai,U⟩:=h
 obtain⟨as,rfl,al⟩:=XZ (f:=f) (l:=l) fun x hm=>by
  obtain⟨us,rfl,J,_⟩:=U x hm
  exact he us J
 exact⟨as,rfl,by rw[List.length_map]at ai;exact ai,al⟩
theorem X1 {P:Program} {e:TypeId} {n:Nat} {us:List V} {k:IntKind} (aO:isAgg P e=false) (hu:P.underlying e=some (.int k)) (h:me P n e us):∃a:Int,pack (isAgg P e) us=V.int k a∧Ac (V.int k a):=by
 obtain⟨m,rfl,hw⟩:=XY hu h
 rw[aO]
 exact⟨m,rfl,hw⟩
theorem lx.one {W:World} {v:V} {c:Value} (h:lx W [v] [c]):yj W v c:=by
 have:=h.2.2 0 (by simp)
 exact this
theorem lx.agg {W:World} {vs:List V} {cs:Array Value} (h:lx W vs cs.toList):yj W (.agg vs) (.agg cs):=by
 refine .agg _ _ (by simpa using h.1) fun i hi=>?_
 have:=h.2.2 i hi
 simpa[List.getD_eq_getElem?_getD,Array.getD_eq_getD_getElem?]using this
end Go.aB
