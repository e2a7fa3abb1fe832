/- Lists that nobody else sees, settled and made objects. -/
import Derived.Test.YtlecddobnippmaaGreatEvF
import Derived.Test.YtlecddobnippmaaGreatEvE
set_option linter.unusedVariables false
set_option linter.unusedSimpArgs false
namespace Go.aB
open Go
variable {P:Program} {G:bh} {s:ab} {a:Act} {w:World} {o:Oper}
variable {d:Option Nat} {ty:TypeId} {pos:String} {af:Array Edge} {gd:Option (Nat×Bool)}
theorem N8 {v:V} (h:bM v=true):v.cI=v:=by
 cases v
 case uq=>cases h
 case agg=>cases h
 all_goals rw[V.cI]
theorem zq (v:V):v.cI.flat=v.flat.map V.cI:=by
 cases v
 case agg l=>rw[FC];rfl
 case uq sz l=>rw[yJ];show[_]=[V.cI (.uq sz l)];rw[yJ]
 all_goals (simp[V.cI,V.flat])
theorem zr (l:List V) (i:Nat):(l.map V.cI).getD i .undef=(l.getD i .undef).cI:=by
 simp only[List.getD_eq_getElem?_getD,List.getElem?_map]
 cases l[i]?<;>simp[V.cI]
theorem cX.cI {S S' β} {w:World} {bs:List Nat} {l:List V} {xs:List Value} (h:cX S β w bs l xs) (hle:∀g j c,S g j=some c→S' g j=some c)
 (ad:∀b∈bs,∀cs ty n,w.heap[b]?=some (.cells cs ty n)→∀j,j<cs.size→S' b j=some (cs.getD j undef)):
 ∀k,k<l.length→aH S' β (l.getD k .undef).cI (xs.getD k undef)∧bM (l.getD k .undef).cI=true:=by
 induction h with
 | nil=>intro k ay;exact absurd ay (Nat.not_lt_zero _)
 | leaf arM h k ag=>
   intro j au
   cases j with
   | zero=>
     show aH S' β (V.cI _) _∧bM (V.cI _)=true
     rw[show ∀a:V,∀m:List V,(a::m).getD 0 .undef=a from fun _ _=>rfl,N8 arM]
     exact⟨h.mono hle (fun _ _ _ e=>e),arM⟩
   | succ j=>exact ag ad j (by simpa using au)
 | emp k ag=>
   intro j au
   cases j with
   | zero=>
     rw[show ∀a:V,∀m:List V,(a::m).getD 0 .undef=a from fun _ _=>rfl,yJ]
     exact⟨.h5 _ _ _,rfl⟩
   | succ j=>exact ag ad j (by simpa using au)
 | @eZ zk zl sz m g cs ty cap l xs av ah hm al a8 ay k m5 iN=>
   intro j au
   have i1:=m5 fun b h8=>ad b (List.mem_cons_of_mem _ (List.mem_append_left _ h8))
   cases j with
   | zero=>
     rw[show ∀a:V,∀m:List V,(a::m).getD 0 .undef=a from fun _ _=>rfl,yJ]
     refine⟨?_,rfl⟩
     have hlen:=o1 al
     have cell:∀p q,p<m.length→q<sz→aH S' β ((m.getD p .undef).flat.getD q .undef).cI (cs.getD (p*sz+q) undef)∧bM ((m.getD p .undef).flat.getD q .undef).cI=true:=fun p q arM aE=>by
      have aL:=jE arM aE
      have:=i1 (p*sz+q) (by rw[hlen];exact aL)
      rw[wC al p q arM aE]at this
      have e:(cs.toList.take (m.length*sz)).getD (p*sz+q) undef=cs.getD (p*sz+q) undef:=by
       simp only[List.getD_eq_getElem?_getD,List.getElem?_take,if_pos aL,Array.getD_eq_getD_getElem?]
       simp
      rw[e]at this
      exact this
     have iP:(m.map V.cI).length=m.length:=List.length_map _
     have key:aH S' β (.slc false sz (m.map V.cI)) (.slice (some ⟨g,0,none⟩) (m.map V.cI).length cap):=by
      refine aH.slc sz (m.map V.cI) g 0 cap (fun p q=>cs.getD (p*sz+q) undef) (by rw[iP];exact hm) (fun x U=>?_) (fun p q arM aE=>?_) (fun p q arM aE=>?_)
      ·obtain⟨y,aA,rfl⟩:=List.mem_map.1 U
       rw[zq,List.length_map]
       refine⟨al y aA,List.all_eq_true.2 fun z aD=>?_⟩
       obtain⟨u,hu,rfl⟩:=List.mem_map.1 aD
       obtain⟨p,arM,rfl⟩:=List.getElem_of_mem aA
       obtain⟨q,aE,rfl⟩:=List.getElem_of_mem hu
       have:=(cell p q arM (by rw[←al _ aA];exact aE)).2
       simpa[List.getD_eq_getElem?_getD,List.getElem?_eq_getElem arM,List.getElem?_eq_getElem aE]using this
      ·rw[iP]at arM
       have aL:=jE arM aE
       have aqT:m.length*sz≤cs.size:=by rw[ah];exact Nat.mul_le_mul_right _ hm
       rw[Nat.zero_add]
       exact ad g (List.mem_cons_self ..) _ _ _ av _ (by omega)
      ·rw[iP]at arM
       rw[zr,zq,zr]
       exact(cell p q arM aE).1
     rw[iP]at key
     exact key
   | succ j=>exact iN (fun b h8=>ad b (List.mem_cons_of_mem _ (List.mem_append_right _ h8))) j (by simpa using au)
def rowAt (w:World) (k j:Nat):Option Value:=match w.heap[k]? with
 | some (.cells cs _ _)=>cs[j]?
 | _=>none
def bh.uH (G:bh) (w:World) (bs:List Nat):bh where
 S:=fun k j=>if k∈bs then rowAt w k j else G.S k j
 β:=G.β
 aV:=G.aV
theorem Gu (j4:∀g j c,G.S g j=some c→w.cell? ⟨g,j,none⟩=some c) {p:bd} {sz:Nat} {l:List V} {x:Value} (h:dm G w p sz l x):
 ∃G',ch G G'∧G'.β=G.β∧G'.aV=G.aV∧(∀k,G.aV k≠some p→∀j,G'.S k j=G.S k j)∧(∀g j c,G'.S g j=some c→w.cell? ⟨g,j,none⟩=some c)∧br G' w p (.slc true sz (l.map V.cI)) x:=by
 obtain⟨a,cap,rfl,⟨rfl,rfl⟩ | ⟨g,cs,ez,bs,rfl,aC,bA,av,en,jk,al,a8,ay⟩⟩:=h.inv
 ·exact⟨G,ch.refl _,rfl,rfl,fun _ _ _=>rfl,j4,aH.h5 _ _ _,a,0,rfl,.inl rfl⟩
 ·have n8:g∉bs:=(List.nodup_cons.1 aC).1
  have N9:∀b∈bs,∀j,G.S b j=none:=by
   have aux:∀{bs l xs},cX G.S G.β w bs l xs→∀b∈bs,∀j,G.S b j=none:=by
    intro bs l xs h
    induction h with
    | nil=>intro b ad;cases ad
    | leaf _ _ _ ag=>exact ag
    | emp _ ag=>exact ag
    | eZ _ _ _ _ a8 _ _ m5 iN=>
      intro b ad j
      rcases List.mem_cons.1 ad with rfl | ad
      ·exact a8 j
      ·rcases List.mem_append.1 ad with ad | ad
       ·exact m5 b ad j
       ·exact iN b ad j
   exact aux ay
  have Oa:ch G (G.uH w bs):=⟨fun k j c ah=>by
   show(if k∈bs then _ else _)=_
   rw[if_neg (fun e=>by rw[N9 k e j]at ah;cases ah)];exact ah,fun _ _ _ e=>e⟩
  have hle:ch G ((G.uH w bs).cI g (l.length*sz) cs):=⟨fun k j c ah=>by
   show(if k=g∧j<_ then _ else _)=_
   rw[if_neg (by rintro⟨rfl,_⟩;rw[a8 j]at ah;cases ah)];exact Oa.S _ _ _ ah,fun _ _ _ e=>e⟩
  have ct:l.length*sz≤cs.size:=by rw[en];exact Nat.mul_le_mul_right _ jk
  have Ob:=ay.cI (S':=((G.uH w bs).cI g (l.length*sz) cs).S) hle.S (fun b ad gr ty' j6 bT j au=>by
   show(if b=g∧j<_ then _ else _)=_
   rw[if_neg (by rintro⟨rfl,_⟩;exact n8 ad)]
   show(if b∈bs then _ else _)=_
   rw[if_pos ad,rowAt,bT]
   show gr[j]?=_
   rw[Array.getElem?_eq_getElem au,nU au])
  have iP:(l.map V.cI).length=l.length:=List.length_map _
  have hlen:=o1 al
  have cell:∀p q,p<l.length→q<sz→aH ((G.uH w bs).cI g (l.length*sz) cs).S G.β ((l.getD p .undef).flat.getD q .undef).cI (cs.getD (p*sz+q) undef)∧bM ((l.getD p .undef).flat.getD q .undef).cI=true:=fun p q arM aE=>by
   have aL:=jE arM aE
   have:=Ob (p*sz+q) (by rw[hlen];exact aL)
   rw[wC al p q arM aE]at this
   have e:(cs.toList.take (l.length*sz)).getD (p*sz+q) undef=cs.getD (p*sz+q) undef:=by
    simp only[List.getD_eq_getElem?_getD,List.getElem?_take,if_pos aL,Array.getD_eq_getD_getElem?]
    simp
   rw[e]at this
   exact this
  refine⟨(G.uH w bs).cI g (l.length*sz) cs,hle,rfl,rfl,fun k e4 j=>?_,fun k j c ah=>?_,?_,some ⟨g,0,none⟩,cap,by rw[iP],.inr ⟨g,cs,ez,rfl,bA g (List.mem_cons_self ..),av,en,fun j au=>?_⟩⟩
  ·show(if k=g∧j<_ then _ else _)=_
   rw[if_neg (by rintro⟨rfl,_⟩;exact e4 (bA k (List.mem_cons_self ..)))]
   show(if k∈bs then _ else _)=_
   rw[if_neg (fun e=>e4 (bA k (List.mem_cons_of_mem _ e)))]
  ·have ey:(if k=g∧j<l.length*sz then cs[j]? else(if k∈bs then rowAt w k j else G.S k j))=some c:=ah
   split at ey
   ·rename_i ay;obtain⟨rfl,_⟩:=ay;simp only[World.cell?,av];exact ey
   ·split at ey
    ·unfold rowAt at ey
     split at ey
     ·rename_i bj;simp only[World.cell?,bj];exact ey
     ·cases ey
    ·exact j4 _ _ _ ey
  ·have key:aH ((G.uH w bs).cI g (l.length*sz) cs).S G.β (.slc false sz (l.map V.cI)) (.slice (some ⟨g,0,none⟩) (l.map V.cI).length cap):=by
    refine aH.slc sz (l.map V.cI) g 0 cap (fun i j=>cs.getD (i*sz+j) Go.undef) (by rw[iP];exact jk) (fun x U=>?_) (fun i j hi au=>?_) (fun i j hi au=>?_)
    ·obtain⟨y,aA,rfl⟩:=List.mem_map.1 U
     rw[zq,List.length_map]
     refine⟨al y aA,List.all_eq_true.2 fun z aD=>?_⟩
     obtain⟨u,hu,rfl⟩:=List.mem_map.1 aD
     obtain⟨p,arM,rfl⟩:=List.getElem_of_mem aA
     obtain⟨q,aE,rfl⟩:=List.getElem_of_mem hu
     have:=(cell p q arM (by rw[←al _ aA];exact aE)).2
     simpa[List.getD_eq_getElem?_getD,List.getElem?_eq_getElem arM,List.getElem?_eq_getElem aE]using this
    ·rw[iP]at hi
     have bf:=jE hi au
     show(if g=g∧0+i*sz+j<l.length*sz then cs[0+i*sz+j]? else _)=_
     rw[if_pos ⟨rfl,by omega⟩,Nat.zero_add,Array.getElem?_eq_getElem (by omega),nU (by omega)]
    ·rw[iP]at hi
     rw[zr,zq,zr]
     exact(cell i j hi au).1
   rw[iP]at key
   exact key
  ·rw[iP]at au
   show(if g=g∧j<l.length*sz then _ else _)=_
   rw[if_neg (by omega)]
   show(if g∈bs then _ else _)=_
   rw[if_neg n8]
   exact a8 j
theorem Oc (l:List V) (i:Nat):(l.map V.nN).getD i .undef=(l.getD i .undef).nN:=by
 simp only[List.getD_eq_getElem?_getD,List.getElem?_map]
 cases l[i]?<;>rfl
theorem br.nN {p:bd} {v:V} {x:Value} (j4:∀g j c,G.S g j=some c→w.cell? ⟨g,j,none⟩=some c) (h:br G w p v x):
 ∃G',ch G G'∧G'.β=G.β∧G'.aV=G.aV∧(∀k,G.aV k≠some p→∀j,G'.S k j=G.S k j)∧(∀g j c,G'.S g j=some c→w.cell? ⟨g,j,none⟩=some c)∧br G' w p v.nN x:=by
 by_cases aE:∃sz l,v=.uq sz l
 ·obtain⟨sz,l,rfl⟩:=aE
  exact Gu j4 h
 ·have:v.nN=v:=by cases v<;>first | rfl | exact absurd ⟨_,_,rfl⟩ aE
  rw[this]
  exact⟨G,ch.refl _,rfl,rfl,fun _ _ _=>rfl,j4,h⟩
theorem Od (j4:∀g j c,G.S g j=some c→w.cell? ⟨g,j,none⟩=some c) {l:List V} {X:Nat→Value} (h:∀j,j<l.length→br G w (.rs 0 j) (l.getD j .undef) (X j)):
 ∀n,n≤l.length→∃G',ch G G'∧G'.β=G.β∧G'.aV=G.aV∧(∀k,(∀j,G.aV k≠some (.rs 0 j))→∀j,G'.S k j=G.S k j)∧(∀g j c,G'.S g j=some c→w.cell? ⟨g,j,none⟩=some c)∧
  ∀j,j<l.length→br G' w (.rs 0 j) (if j<n then(l.getD j .undef).nN else l.getD j .undef) (X j):=by
 intro n
 induction n with
 | zero=>intro _;exact⟨G,ch.refl _,rfl,rfl,fun _ _ _=>rfl,j4,fun j au=>by rw[if_neg (by omega)];exact h j au⟩
 | succ n ag=>
   intro aC
   obtain⟨bl,aT,a2,a3,a4,a5,ng⟩:=ag (by omega)
   have ah:=ng n (by omega)
   rw[if_neg (by omega)]at ah
   obtain⟨bN,bU,cv,dn,ed,gm,iz⟩:=ah.nN a5
   refine⟨bN,⟨fun g j c e=>bU.S _ _ _ (aT.S _ _ _ e),fun l t g e=>bU.β _ _ _ (aT.β _ _ _ e)⟩,cv.trans a2,dn.trans a3,fun k ay j=>?_,gm,fun j au=>?_⟩
   ·rw[ed k (by rw[a3];exact ay n) j,a4 k ay j]
   ·by_cases uI:j=n
    ·subst uI;rw[if_pos (by omega)];exact iz
    ·have aR:(if j<n+1 then(l.getD j .undef).nN else l.getD j .undef)=(if j<n then(l.getD j .undef).nN else l.getD j .undef):=by
      by_cases J:j<n
      ·rw[if_pos J,if_pos (by omega)]
      ·rw[if_neg J,if_neg (by omega)]
     rw[aR]
     refine(ng j au).mono bU fun k ay=>⟨rfl,fun i=>ed k ?_ i,by rw[dn];exact ay⟩
     intro e
     rw[ay]at e
     exact uI (by injection (Option.some.inj e))
theorem Rel.settle (h:Rel G s a w) {v:V} {x:Value} (arL:bZ G w bd.rs v x):∃G',Rel G' s a w∧bZ G' w bd.rs v.settle x∧Fr s.lv G w G' w:=by
 have mk:∀G',ch G G'→G'.β=G.β→G'.aV=G.aV→(∀k,(∀j,G.aV k≠some (.rs 0 j))→∀j,G'.S k j=G.S k j)→(∀g j c,G'.S g j=some c→w.cell? ⟨g,j,none⟩=some c)→Rel G' s a w∧Fr s.lv G w G' w:=by
  intro G' J aa ar aP bf
  refine⟨h.grow J aa (fun g p arM av=>⟨rfl,fun j=>aP g (fun i e=>?_) j,by rw[ar];exact av⟩) bf (fun g p av=>h.aX g p (by rw[ar]at av;exact av)),rfl,rfl,rfl,Nat.le_refl _,fun g av hm=>⟨rfl,by rw[ar],fun j=>aP g (fun i e=>hm _ e trivial) j⟩,J.S,fun _ _ _=>by rw[aa]⟩
  rw[av]at e
  exact arM _ _ (Option.some.inj e)
 by_cases aO:∃l,v=.agg l
 ·obtain⟨l,rfl⟩:=aO
  obtain⟨cs,rfl,ai,ah⟩:=(arL:∃cs,x=.agg cs∧l.length=cs.size∧∀j,j<l.length→br G w (.rs 0 j) (l.getD j .undef) (cs.getD j undef))
  obtain⟨G',bU,cv,dn,ed,gm,iz⟩:=Od (X:=fun j=>cs.getD j undef) h.cZ ah l.length (Nat.le_refl _)
  obtain⟨bL,cx⟩:=mk G' bU cv dn ed gm
  refine⟨G',bL,⟨cs,rfl,by simpa using ai,fun j au=>?_⟩,cx⟩
  have di:j<l.length:=by simpa using au
  have:=iz j di
  rw[if_pos di]at this
  rw[Oc]
  exact this
 by_cases aE:∃sz l,v=.uq sz l
 ·obtain⟨sz,l,rfl⟩:=aE
  obtain⟨G',bU,cv,dn,ed,gm,iz⟩:=Gu h.cZ (arL:dm G w (.rs 0 0) sz l x)
  obtain⟨bL,cx⟩:=mk G' bU cv dn (fun k ay j=>ed k (ay 0) j) gm
  exact⟨G',bL,iz,cx⟩
 ·have:v.settle=v:=by cases v<;>first | rfl | exact absurd ⟨_,rfl⟩ aO | exact absurd ⟨_,_,rfl⟩ aE
  rw[this]
  exact⟨G,h,arL,Fr.refl _ _ _⟩
theorem Rel.iw (h:Rel G s a w) (b:Bool) {v:V} {x:Value} (arL:bZ G w bd.rs v x):∃G',Rel G' s a w∧bZ G' w bd.rs (iw b v) x∧Fr s.lv G w G' w:=by
 cases b
 ·exact⟨G,h,arL,Fr.refl _ _ _⟩
 ·exact h.settle arL
structure hz (s s1:ab):Prop where
 lv:s1.lv=s.lv
 t:s1.t=s.t
 n:s1.n=s.n
 o:s1.o=s.o
 f:s1.f=s.f
 r:s1.r=s.r
 ob:∀l u ob,s.ob l u=some ob→s1.ob l u=some ob
theorem hz.refl (s:ab):hz s s:=⟨rfl,rfl,rfl,rfl,rfl,rfl,fun _ _ _ h=>h⟩
theorem hz.trans {s s1 s2:ab} (h:hz s s1) (k:hz s1 s2):hz s s2:=⟨k.lv.trans h.lv,k.t.trans h.t,k.n.trans h.n,k.o.trans h.o,k.f.trans h.f,k.r.trans h.r,fun l u ob e=>k.ob _ _ _ (h.ob _ _ _ e)⟩
theorem Rel.Gv (h:Rel G s a w) {c j:Nat} {sz:Nat} {l:List V} {X:Value} {dd:Nat} (bO:dm G w (.rs c j) sz l X) (aY:l≠[]) (wY:(l.map V.flat).flatten.all bM=true) (aw:s.b dd=none):
 ∃G',Rel G' {s with b:=ae s.b dd (some (.arr false sz l))} a w∧aH G'.S G'.β (.bS s.lv dd l.length) X∧Fr s.lv G w G' w∧ch G G'∧(∀k q,q≠.rs c j→G.aV k=some q→G'.aV k=some q)∧G'.S=G.S:=by
 obtain⟨a0,cap,rfl,⟨aC,_⟩ | ⟨g,cs,ez,bs,rfl,aC,nd,av,en,jk,n9,a8,ay⟩⟩:=bO.inv
 ·exact absurd aC aY
 have bA:=nd g (List.mem_cons_self ..)
 obtain⟨rfl,Oe⟩:=ay.pure (fun v arL=>List.all_eq_true.1 wY v arL)
 have al:∀x∈l,x.flat.length=sz∧x.flat.all bM=true:=fun x U=>⟨n9 x U,List.all_eq_true.2 fun v arL=>List.all_eq_true.1 wY v (List.mem_flatten.2 ⟨_,List.mem_map_of_mem U,arL⟩)⟩
 have a6:∀p q,p<l.length→q<sz→aH G.S G.β ((l.getD p .undef).flat.getD q .undef) (cs.getD (p*sz+q) undef):=fun p q arM aE=>by
  have aL:=jE arM aE
  have:=Oe (p*sz+q) (by rw[o1 n9];exact aL)
  rw[wC n9 p q arM aE]at this
  have e:(cs.toList.take (l.length*sz)).getD (p*sz+q) undef=cs.getD (p*sz+q) undef:=by
   simp only[List.getD_eq_getElem?_getD,List.getElem?_take,if_pos aL,Array.getD_eq_getD_getElem?]
   simp
  rw[e]at this
  exact this
 have dk:=wL h (lv:=s.lv) (t:=dd) (by rw[kX];exact aw)
 have hle:ch G (G.obj s.lv dd g):=⟨fun _ _ _ ah=>ah,fun l u g' bT=>by
  show(if l=s.lv∧u=dd then _ else _)=_
  rw[if_neg (by rintro⟨rfl,rfl⟩;rw[dk]at bT;cases bT)];exact bT⟩
 have arU:∀k q,q≠.rs c j→G.aV k=some q→(G.obj s.lv dd g).aV k=some q:=by
  intro k q aE ay
  show(if k=g then _ else _)=_
  rw[if_neg (by rintro rfl;rw[bA]at ay;exact aE (Option.some.inj ay).symm)];exact ay
 refine⟨G.obj s.lv dd g,⟨h.size,h.defers,fun t=>(h.slot t).mono hle fun bJ zd k ay=>⟨rfl,fun _=>rfl,arU k _ (fun e=>by cases e) ay⟩,fun lv t eV cq=>?_,fun lv t g' bT=>?_,h.cZ,fun g' q aE=>?_⟩,?_,⟨rfl,rfl,rfl,Nat.le_refl _,fun k ay hm=>⟨rfl,?_,fun _=>rfl⟩,fun _ _ _ e=>e,fun bc bY hJ=>?_⟩,hle,arU,rfl⟩
 ·rw[nX]at cq
  split at cq
  ·rename_i he
   obtain⟨rfl,rfl⟩:=he
   obtain rfl:=Option.some.inj cq
   refine⟨g,?_,?_,cs,ez,av,by rw[en];exact Nat.mul_le_mul_right _ jk,al,fun i j hi au=>hle.dg (a6 i j hi au),a8⟩
   ·show(if _∧_ then _ else _)=_;rw[if_pos ⟨rfl,rfl⟩]
   ·show(if _=_ then _ else _)=_;rw[if_pos rfl]
  ·obtain⟨g',J,aa,ar⟩:=h.obj lv t eV cq
   exact⟨g',hle.β _ _ _ J,arU _ _ (fun e=>by cases e) aa,ar.mono hle ⟨rfl,fun _=>rfl⟩ fun i k ay=>⟨rfl,fun _=>rfl,arU _ _ (fun e=>by cases e) ay⟩⟩
 ·rw[nX]
  split
  ·exact⟨_,rfl⟩
  ·rename_i su
   have kb:(if lv=s.lv∧t=dd then some g else G.β lv t)=some g':=bT
   rw[if_neg su]at kb
   exact h.fC _ _ _ kb
 ·have e7:(if g'=g then some (bd.ob s.lv dd)else G.aV g')=some q:=aE
  split at e7
  ·rename_i e;subst e;exact h.aX _ _ bA
  ·exact h.aX _ _ e7
 ·refine aH.bS _ _ _ g cap ?_ jk
  show(if _∧_ then _ else _)=_;rw[if_pos ⟨rfl,rfl⟩]
 ·show(if k=g then _ else _)=_
  rw[if_neg (by rintro rfl;exact hm _ bA trivial)]
 ·show(if bc=s.lv∧bY=dd then _ else _)=_
  rw[if_neg (by omega)]
theorem Rel.Of (h:Rel G s a w) {c j:Nat} {l:List V} {X:Value} {dd:Nat} (bO:BH G w (.rs c j) l X) (aw:s.b dd=none):
 ∃G',Rel G' {s with b:=ae s.b dd (some (.box l))} a w∧aH G'.S G'.β (.ptr s.lv dd 0) X∧Fr s.lv G w G' w∧ch G G'∧(∀k q,q≠.rs c j→G.aV k=some q→G'.aV k=some q)∧G'.S=G.S:=by
 obtain⟨g,cs,ez,rfl,bA,av,jk,a8,arM,a6⟩:=bO
 have dk:=wL h (lv:=s.lv) (t:=dd) (by rw[kX];exact aw)
 have hle:ch G (G.obj s.lv dd g):=⟨fun _ _ _ ah=>ah,fun l u g' bT=>by
  show(if l=s.lv∧u=dd then _ else _)=_
  rw[if_neg (by rintro⟨rfl,rfl⟩;rw[dk]at bT;cases bT)];exact bT⟩
 have arU:∀k q,q≠.rs c j→G.aV k=some q→(G.obj s.lv dd g).aV k=some q:=by
  intro k q aE ay
  show(if k=g then _ else _)=_
  rw[if_neg (by rintro rfl;rw[bA]at ay;exact aE (Option.some.inj ay).symm)];exact ay
 refine⟨G.obj s.lv dd g,⟨h.size,h.defers,fun t=>(h.slot t).mono hle fun bJ zd k ay=>⟨rfl,fun _=>rfl,arU k _ (fun e=>by cases e) ay⟩,fun lv t eV cq=>?_,fun lv t g' bT=>?_,h.cZ,fun g' q aE=>?_⟩,?_,⟨rfl,rfl,rfl,Nat.le_refl _,fun k ay hm=>⟨rfl,?_,fun _=>rfl⟩,fun _ _ _ e=>e,fun bc bY hJ=>?_⟩,hle,arU,rfl⟩
 ·rw[nX]at cq
  split at cq
  ·rename_i he
   obtain⟨rfl,rfl⟩:=he
   obtain rfl:=Option.some.inj cq
   refine⟨g,?_,?_,cs,ez,av,jk,a8,fun i hi=>br.lQ (hle.dg (a6 i hi)) fun sz m e=>?_⟩
   ·show(if _∧_ then _ else _)=_;rw[if_pos ⟨rfl,rfl⟩]
   ·show(if _=_ then _ else _)=_;rw[if_pos rfl]
   ·have hm:l.getD i .undef∈l:=by
     rw[List.getD_eq_getElem?_getD,List.getElem?_eq_getElem hi]
     exact List.getElem_mem hi
    have:=arM _ hm
    rw[e]at this
    cases this
  ·obtain⟨g',J,aa,ar⟩:=h.obj lv t eV cq
   exact⟨g',hle.β _ _ _ J,arU _ _ (fun e=>by cases e) aa,ar.mono hle ⟨rfl,fun _=>rfl⟩ fun i k ay=>⟨rfl,fun _=>rfl,arU _ _ (fun e=>by cases e) ay⟩⟩
 ·rw[nX]
  split
  ·exact⟨_,rfl⟩
  ·rename_i su
   have kb:(if lv=s.lv∧t=dd then some g else G.β lv t)=some g':=bT
   rw[if_neg su]at kb
   exact h.fC _ _ _ kb
 ·have e7:(if g'=g then some (bd.ob s.lv dd)else G.aV g')=some q:=aE
  split at e7
  ·rename_i e;subst e;exact h.aX _ _ bA
  ·exact h.aX _ _ e7
 ·refine aH.ptr _ _ _ g ?_
  show(if _∧_ then _ else _)=_;rw[if_pos ⟨rfl,rfl⟩]
 ·show(if k=g then _ else _)=_
  rw[if_neg (by rintro rfl;exact hm _ bA trivial)]
 ·show(if bc=s.lv∧bY=dd then _ else _)=_
  rw[if_neg (by omega)]
theorem hz.new {dd:Nat} {ob:ax} (aw:s.b dd=none):hz s {s with b:=ae s.b dd (some ob)}:=by
 refine⟨rfl,rfl,rfl,rfl,rfl,rfl,fun l u eV he=>?_⟩
 rw[nX,if_neg (by rintro⟨rfl,rfl⟩;rw[kX,aw]at he;cases he)]
 exact he
theorem Rel.Og (h:Rel G s a w) {c j:Nat} {sz:Nat} {l:List V} {g cap:Nat} {cs:Array Value} {ez:TypeId} {dd:Nat} (bA:G.aV g=some (.rs c j)) (av:w.heap[g]?=some (.cells cs ez (0,0))) (en:cs.size=cap*sz) (jk:l.length≤cap) (a8:∀j,G.S g j=none)
 (al:∀x∈l,x.flat.length=sz∧x.flat.all jt=true) (a6:∀p q,p<l.length→q<sz→aH G.S G.β ((l.getD p .undef).flat.getD q .undef) (cs.getD (p*sz+q) undef)) (aw:s.b dd=none):
 ∃G',Rel G' {s with b:=ae s.b dd (some (.dir sz l))} a w∧aH G'.S G'.β (.bS s.lv dd l.length) (.slice (some ⟨g,0,none⟩) l.length cap)∧Fr s.lv G w G' w∧ch G G'∧(∀k q,k≠g→G.aV k=some q→G'.aV k=some q)∧G'.S=G.S:=by
 have dk:=wL h (lv:=s.lv) (t:=dd) (by rw[kX];exact aw)
 have hle:ch G (G.obj s.lv dd g):=⟨fun _ _ _ ah=>ah,fun l u g' bT=>by
  show(if l=s.lv∧u=dd then _ else _)=_
  rw[if_neg (by rintro⟨rfl,rfl⟩;rw[dk]at bT;cases bT)];exact bT⟩
 have arU:∀k q,k≠g→G.aV k=some q→(G.obj s.lv dd g).aV k=some q:=by
  intro k q aE ay
  show(if k=g then _ else _)=_
  rw[if_neg aE];exact ay
 have Co:∀k q,(∀c j,q≠.rs c j)→G.aV k=some q→(G.obj s.lv dd g).aV k=some q:=fun k q aE ay=>arU k q (by rintro rfl;rw[bA]at ay;exact aE _ _ (Option.some.inj ay).symm) ay
 refine⟨G.obj s.lv dd g,⟨h.size,h.defers,fun t=>(h.slot t).mono hle fun bJ zd k ay=>⟨rfl,fun _=>rfl,Co k _ (fun _ _ e=>by cases e) ay⟩,fun lv t eV cq=>?_,fun lv t g' bT=>?_,h.cZ,fun g' q aE=>?_⟩,?_,⟨rfl,rfl,rfl,Nat.le_refl _,fun k ay hm=>⟨rfl,?_,fun _=>rfl⟩,fun _ _ _ e=>e,fun bc bY ai=>?_⟩,hle,arU,rfl⟩
 ·rw[nX]at cq
  split at cq
  ·rename_i he
   obtain⟨rfl,rfl⟩:=he
   obtain rfl:=Option.some.inj cq
   refine⟨g,?_,?_,cs,ez,av,by rw[en];exact Nat.mul_le_mul_right _ jk,al,fun i j hi au=>hle.dg (a6 i j hi au),a8⟩
   ·show(if _∧_ then _ else _)=_;rw[if_pos ⟨rfl,rfl⟩]
   ·show(if _=_ then _ else _)=_;rw[if_pos rfl]
  ·obtain⟨g',J,aa,ar⟩:=h.obj lv t eV cq
   exact⟨g',hle.β _ _ _ J,Co _ _ (fun _ _ e=>by cases e) aa,ar.mono hle ⟨rfl,fun _=>rfl⟩ fun i k ay=>⟨rfl,fun _=>rfl,Co _ _ (fun _ _ e=>by cases e) ay⟩⟩
 ·rw[nX]
  split
  ·exact⟨_,rfl⟩
  ·rename_i su
   have kb:(if lv=s.lv∧t=dd then some g else G.β lv t)=some g':=bT
   rw[if_neg su]at kb
   exact h.fC _ _ _ kb
 ·have e7:(if g'=g then some (bd.ob s.lv dd)else G.aV g')=some q:=aE
  split at e7
  ·rename_i e;subst e;exact h.aX _ _ bA
  ·exact h.aX _ _ e7
 ·refine aH.bS _ _ _ g cap ?_ jk
  show(if _∧_ then _ else _)=_;rw[if_pos ⟨rfl,rfl⟩]
 ·show(if k=g then _ else _)=_
  rw[if_neg (by rintro rfl;exact hm _ bA trivial)]
 ·show(if bc=s.lv∧bY=dd then _ else _)=_
  rw[if_neg (by omega)]
structure mD (G:bh) (s:ab) (a:Act) (w:World) (bs:List Nat) (G':bh) (s1:ab):Prop where
 rel:Rel G' s1 a w
 cC:Fr s.lv G w G' w
 le:ch G G'
 aV:∀k q,k∉bs→G.aV k=some q→G'.aV k=some q
 S:G'.S=G.S
 q1:hz s s1
theorem mD.refl (h:Rel G s a w):mD G s a w [] G s:=⟨h,Fr.refl _ _ _,ch.refl _,fun _ _ _ e=>e,rfl,hz.refl _⟩
theorem mD.trans {bs jj:List Nat} {bl bN:bh} {s1 s2:ab} (h:mD G s a w bs bl s1) (k:mD bl s1 a w jj bN s2):mD G s a w (bs++jj) bN s2:=
 ⟨k.rel,h.cC.trans (by have:=k.cC;rw[h.q1.lv]at this;exact this),⟨fun g j c e=>k.le.S _ _ _ (h.le.S _ _ _ e),fun l t g e=>k.le.β _ _ _ (h.le.β _ _ _ e)⟩,
   fun b q ad e=>k.aV b q (fun cc=>ad (List.mem_append_right _ cc)) (h.aV b q (fun cc=>ad (List.mem_append_left _ cc)) e),k.S.trans h.S,h.q1.trans k.q1⟩
theorem mD.uG {bs jj:List Nat} {bl:bh} {s1:ab} (h:mD G s a w bs bl s1) {l:List V} {xs:List Value} (k:cX G.S G.β w jj l xs):cX bl.S bl.β w jj l xs:=k.mono (fun _ _ _ e=>h.le.dg e) fun b ad=>⟨rfl,fun j=>by rw[h.S]⟩
theorem zs {v:V} (h:jt v=true):v.flat=[v]:=by
 cases v<;>first | rfl | (cases h;done)
def Cp (a:Act) (w:World) (f:ab→Nat→V→Option (V×ab)):Prop:=∀{G:bh} {s s1:ab} {id:Nat} {v bF:V} {x:Value} {bs:List Nat} {c j:Nat},Rel G s a w→bs.Nodup→(∀b∈bs,G.aV b=some (.rs c j))→cX G.S G.β w bs [v] [x]→f s id v=some (bF,s1)→
 ∃G',mD G s a w bs G' s1∧aH G'.S G'.β bF x∧jt bF=true
theorem Oh {f:ab→Nat→V→Option (V×ab)} (aJ:Cp a w f) {M id:Nat}:∀{l:List V} {G:bh} {s s1:ab} {k:Nat} {bc:List V} {xs:List Value} {bs:List Nat} {c j:Nat},Rel G s a w→bs.Nodup→(∀b∈bs,G.aV b=some (.rs c j))→cX G.S G.β w bs l xs→jh f M id s k l=some (bc,s1)→
 ∃G',mD G s a w bs G' s1∧bc.length=l.length∧(∀i,i<l.length→aH G'.S G'.β (bc.getD i .undef) (xs.getD i undef))∧bc.all jt=true:=by
 intro l
 induction l with
 | nil=>
   intro G s s1 k bc xs bs c j h aC bA aw arL
   obtain⟨rfl,rfl⟩:=Prod.mk.inj (Option.some.inj arL)
   cases aw
   exact⟨G,.refl h,rfl,fun i hi=>absurd hi (Nat.not_lt_zero _),rfl⟩
 | cons v l ag=>
   intro G s s1 k bc xs bs c j h aC bA aw arL
   unfold jh at arL
   split at arL
   ·rename_i bF s2 J
    split at arL
    ·rename_i gG s3 aa
     obtain⟨rfl,rfl⟩:=Prod.mk.inj (Option.some.inj arL)
     obtain⟨bU,cv,rfl,aq,aF⟩:=cX.split (l1:=[v]) aw
     rw[List.nodup_append]at aC
     obtain⟨fk,hx,hN⟩:=aC
     have my:xs=xs.getD 0 undef::xs.drop 1:=by
      have:=aw.len
      cases xs with
      | nil=>simp at this
      | cons x xs=>rfl
     have aR:xs.take [v].length=[xs.getD 0 undef]:=by rw[my];rfl
     rw[aR]at aq
     obtain⟨bl,bL,t1,d1⟩:=aJ h fk (fun b ad=>bA b (List.mem_append_left _ ad)) aq J
     obtain⟨bN,cx,t2,t3,d2⟩:=ag bL.rel hx (fun b ad=>bL.aV b _ (fun e=>hN b e b ad rfl) (bA b (List.mem_append_right _ ad))) (bL.uG aF) aa
     refine⟨bN,bL.trans cx,by simp[t2],fun i hi=>?_,by rw[List.all_cons,d1,d2];rfl⟩
     cases i with
     | zero=>exact cx.le.dg t1
     | succ i=>
       have:=t3 i (by simpa using hi)
       rw[my]
       exact this
    ·cases arL
   ·cases arL
theorem Oi {f:ab→Nat→V→Option (V×ab)} (aJ:Cp a w f) {M id sz:Nat}:∀{l:List V} {G:bh} {s s1:ab} {i:Nat} {bc:List V} {xs:List Value} {bs:List Nat} {c j:Nat},Rel G s a w→bs.Nodup→(∀b∈bs,G.aV b=some (.rs c j))→cX G.S G.β w bs (l.map V.flat).flatten xs→jv f M id sz s i l=some (bc,s1)→
 ∃G',mD G s a w bs G' s1∧bc.map (fun x=>x.flat.length)=l.map (fun x=>x.flat.length)∧(∀i,i<(l.map V.flat).flatten.length→aH G'.S G'.β ((bc.map V.flat).flatten.getD i .undef) (xs.getD i undef))∧(bc.map V.flat).flatten.all jt=true:=by
 intro l
 induction l with
 | nil=>
   intro G s s1 i bc xs bs c j h aC bA aw arL
   obtain⟨rfl,rfl⟩:=Prod.mk.inj (Option.some.inj arL)
   cases aw
   exact⟨G,.refl h,rfl,fun i hi=>absurd hi (Nat.not_lt_zero _),rfl⟩
 | cons v l ag=>
   intro G s s1 i bc xs bs c j h aC bA aw arL
   unfold jv at arL
   split at arL
   ·rename_i cs s2 J
    split at arL
    ·rename_i gG s3 aa
     obtain⟨rfl,rfl⟩:=Prod.mk.inj (Option.some.inj arL)
     rw[List.map_cons,List.flatten_cons]at aw
     obtain⟨bU,cv,rfl,aq,aF⟩:=aw.split
     rw[List.nodup_append]at aC
     obtain⟨fk,hx,hN⟩:=aC
     obtain⟨bl,bL,t1,t0,d1⟩:=Oh aJ h fk (fun b ad=>bA b (List.mem_append_left _ ad)) aq J
     obtain⟨bN,cx,t2,t3,d2⟩:=ag bL.rel hx (fun b ad=>bL.aV b _ (fun e=>hN b e b ad rfl) (bA b (List.mem_append_right _ ad))) (bL.uG aF) aa
     have df:(v.rW cs).flat=cs:=by
      cases v
      case agg m=>rfl
      all_goals
       have Oj:cs.length=1:=t1
       match cs,Oj,d1 with
       | [c],_,d1=>
         show c.flat=[c]
         exact zs (by simpa using d1)
     refine⟨bN,bL.trans cx,by simp only[List.map_cons,df,t1,t2],fun i hi=>?_,by rw[List.map_cons,List.flatten_cons,List.all_append,df,d1,d2];rfl⟩
     rw[List.map_cons,List.flatten_cons,List.length_append]at hi
     rw[List.map_cons,List.flatten_cons,df]
     by_cases aL:i<v.flat.length
     ·have e:(cs++(gG.map V.flat).flatten).getD i .undef=cs.getD i .undef:=by
       simp only[List.getD_eq_getElem?_getD]
       rw[List.getElem?_append_left (by omega)]
      have a7:(xs.take v.flat.length).getD i undef=xs.getD i undef:=by
       simp only[List.getD_eq_getElem?_getD,List.getElem?_take,if_pos aL]
      rw[e,←a7]
      exact cx.le.dg (t0 i aL)
     ·have e:(cs++(gG.map V.flat).flatten).getD i .undef=(gG.map V.flat).flatten.getD (i-v.flat.length) .undef:=by
       simp only[List.getD_eq_getElem?_getD]
       rw[List.getElem?_append_right (by omega),t1]
      have a7:(xs.drop v.flat.length).getD (i-v.flat.length) undef=xs.getD i undef:=by
       simp only[List.getD_eq_getElem?_getD,List.getElem?_drop]
       rw[show v.flat.length+(i-v.flat.length)=i by omega]
      rw[e,←a7]
      exact t3 _ (by omega)
    ·cases arL
   ·cases arL
theorem Ok:∀n,Cp a w (fb n):=by
 have leaf:∀{G:bh} {s s1:ab} {v bF:V} {x:Value} {bs:List Nat},Rel G s a w→cX G.S G.β w bs [v] [x]→(if bM v then some (v,s)else none)=some (bF,s1)→∃G',mD G s a w bs G' s1∧aH G'.S G'.β bF x∧jt bF=true:=by
  intro G s s1 v bF x bs h aw arL
  split at arL
  ·rename_i arM
   obtain⟨rfl,rfl⟩:=Prod.mk.inj (Option.some.inj arL)
   obtain⟨rfl,a6⟩:=aw.pure (fun u hu=>by rw[List.mem_singleton.1 hu];exact arM)
   exact⟨G,.refl h,a6 0 (by simp),uA arM⟩
  ·cases arL
 have nil:∀{G:bh} {s s1:ab} {sz:Nat} {bF:V} {x:Value} {bs:List Nat},Rel G s a w→cX G.S G.β w bs [.uq sz []] [x]→some (V.slc false sz [],s)=some (bF,s1)→∃G',mD G s a w bs G' s1∧aH G'.S G'.β bF x∧jt bF=true:=by
  intro G s s1 sz bF x bs h aw arL
  obtain⟨rfl,rfl⟩:=Prod.mk.inj (Option.some.inj arL)
  refine⟨G,⟨h,Fr.refl _ _ _,ch.refl _,fun _ _ _ e=>e,rfl,hz.refl _⟩,?_,rfl⟩
  cases aw with
  | leaf arM=>cases arM
  | emp k=>exact .h5 _ _ _
  | eZ=>exact .h5 _ _ _
 intro n
 induction n with
 | zero=>
   intro G s s1 id v bF x bs c j h aC bA aw arL
   unfold fb at arL
   split at arL
   ·exfalso;omega
   ·exact nil h aw arL
   ·exact leaf h aw arL
 | succ n ag=>
   intro G s s1 id v bF x bs c j h aC bA aw arL
   unfold fb at arL
   split at arL
   ·rename_i j6 sz y l e
    obtain rfl:j6=n:=by injection e with e;exact e.symm
    split at arL
    ·rename_i bc s2 J
     split at arL
     ·rename_i ad
      obtain⟨rfl,rfl⟩:=Prod.mk.inj (Option.some.inj arL)
      cases aw with
      | leaf arM=>cases arM
      | eZ av ah hm al a8 ay k=>
        rename_i zk zl g cs ty cap
        cases k
        rw[List.append_nil]at aC bA
        rw[List.nodup_cons]at aC
        obtain⟨bl,bL,t1,t2,d1⟩:=Oi ag h aC.2 (fun b ad=>bA b (List.mem_cons_of_mem _ ad)) ay J
        have hJ:bc.length=(y::l).length:=by have:=congrArg List.length t1;simpa using this
        have kB:∀x∈bc,x.flat.length=sz:=fun x U=>by
         have bf:x.flat.length∈bc.map (fun x=>x.flat.length):=List.mem_map_of_mem U
         rw[t1]at bf
         obtain⟨z,aD,e⟩:=List.mem_map.1 bf
         rw[←e];exact al z aD
        have Ol:=bL.aV g _ aC.1 (bA g (List.mem_cons_self ..))
        obtain⟨bN,Om,w1,w2,uJ,Cq,Cr⟩:=bL.rel.Og (l:=bc) (cap:=cap) Ol av ah (by omega) (fun j=>by rw[bL.S];exact a8 j) (fun x U=>⟨kB x U,List.all_eq_true.2 fun u hu=>List.all_eq_true.1 d1 u (List.mem_flatten.2 ⟨_,List.mem_map_of_mem U,hu⟩)⟩) (fun p q arM aE=>by
         rw[hJ]at arM
         have aL:=jE arM aE
         have:=t2 (p*sz+q) (by rw[o1 al];exact aL)
         rw[wC kB p q (by omega) aE]at this
         have e:(cs.toList.take ((y::l).length*sz)).getD (p*sz+q) undef=cs.getD (p*sz+q) undef:=by
          simp only[List.getD_eq_getElem?_getD,List.getElem?_take,if_pos aL,Array.getD_eq_getD_getElem?]
          simp
         rw[e]at this
         exact this) ad
        rw[hJ]at w1
        rw[bL.q1.lv]at w2 w1
        refine⟨bN,⟨Om,bL.cC.trans w2,⟨fun g j c e=>uJ.S _ _ _ (bL.le.S _ _ _ e),fun l t g e=>uJ.β _ _ _ (bL.le.β _ _ _ e)⟩,fun b q ad e=>?_,Cr.trans bL.S,bL.q1.trans (hz.new ad)⟩,?_,rfl⟩
        ·rw[List.append_nil]at ad
         exact Cq b q (fun cc=>ad (by rw[cc];exact List.mem_cons_self ..)) (bL.aV b q (fun cc=>ad (List.mem_cons_of_mem _ cc)) e)
        ·rw[bL.q1.lv,hJ];exact w1
     ·cases arL
    ·cases arL
   ·exact nil h aw arL
   ·exact leaf h aw arL
theorem On:∀n {s s1 id v bF},fb n s id v=some (bF,s1)→jt bF=true:=by
 intro n s s1 id v bF arL
 unfold fb at arL
 split at arL
 ·split at arL
  ·split at arL
   ·obtain⟨rfl,_⟩:=Prod.mk.inj (Option.some.inj arL);rfl
   ·cases arL
  ·cases arL
 ·obtain⟨rfl,_⟩:=Prod.mk.inj (Option.some.inj arL);rfl
 ·split at arL
  ·rename_i arM
   obtain⟨rfl,_⟩:=Prod.mk.inj (Option.some.inj arL);exact uA arM
  ·cases arL
theorem Oo {f:ab→Nat→V→Option (V×ab)} (aJ:∀{s s1 id v bF},f s id v=some (bF,s1)→hz s s1) {M id:Nat}:∀{l:List V} {s s1:ab} {k:Nat} {bc:List V},jh f M id s k l=some (bc,s1)→hz s s1:=by
 intro l
 induction l with
 | nil=>intro s s1 k bc arL;obtain⟨rfl,rfl⟩:=Prod.mk.inj (Option.some.inj arL);exact .refl _
 | cons v l ag=>
   intro s s1 k bc arL
   unfold jh at arL
   split at arL
   ·rename_i J
    split at arL
    ·rename_i aa
     obtain⟨_,rfl⟩:=Prod.mk.inj (Option.some.inj arL)
     exact(aJ J).trans (ag aa)
    ·cases arL
   ·cases arL
theorem Oq {f:ab→Nat→V→Option (V×ab)} (aJ:∀{s s1 id v bF},f s id v=some (bF,s1)→hz s s1) {M id sz:Nat}:∀{l:List V} {s s1:ab} {k:Nat} {bc:List V},jv f M id sz s k l=some (bc,s1)→hz s s1:=by
 intro l
 induction l with
 | nil=>intro s s1 k bc arL;obtain⟨rfl,rfl⟩:=Prod.mk.inj (Option.some.inj arL);exact .refl _
 | cons v l ag=>
   intro s s1 k bc arL
   unfold jv at arL
   split at arL
   ·rename_i J
    split at arL
    ·rename_i aa
     obtain⟨_,rfl⟩:=Prod.mk.inj (Option.some.inj arL)
     exact(Oo aJ J).trans (ag aa)
    ·cases arL
   ·cases arL
theorem Ot:∀n {s s1 id v bF},fb n s id v=some (bF,s1)→hz s s1:=by
 intro n
 induction n with
 | zero=>
   intro s s1 id v bF arL
   unfold fb at arL
   split at arL
   ·exfalso;omega
   ·obtain⟨_,rfl⟩:=Prod.mk.inj (Option.some.inj arL);exact .refl _
   ·split at arL
    ·obtain⟨_,rfl⟩:=Prod.mk.inj (Option.some.inj arL);exact .refl _
    ·cases arL
 | succ n ag=>
   intro s s1 id v bF arL
   unfold fb at arL
   split at arL
   ·rename_i j6 sz y l e
    obtain rfl:j6=n:=by injection e with e;exact e.symm
    split at arL
    ·rename_i J
     split at arL
     ·rename_i ad
      obtain⟨_,rfl⟩:=Prod.mk.inj (Option.some.inj arL)
      exact(Oq ag J).trans (.new ad)
     ·cases arL
    ·cases arL
   ·obtain⟨_,rfl⟩:=Prod.mk.inj (Option.some.inj arL);exact .refl _
   ·split at arL
    ·obtain⟨_,rfl⟩:=Prod.mk.inj (Option.some.inj arL);exact .refl _
    ·cases arL
theorem Cs {dd:Nat} {v bF:V} {s1:ab} (arL:e1 s dd v=some (bF,s1)):hz s s1:=by
 unfold e1 at arL
 split at arL
 ·obtain⟨_,rfl⟩:=Prod.mk.inj (Option.some.inj arL);exact .refl _
 ·split at arL
  ·split at arL
   ·rename_i aw
    obtain⟨_,rfl⟩:=Prod.mk.inj (Option.some.inj arL);exact .new aw
   ·cases arL
  ·exact Ot _ arL
 ·split at arL
  ·split at arL
   ·rename_i aw
    obtain⟨_,rfl⟩:=Prod.mk.inj (Option.some.inj arL);exact .new aw
   ·cases arL
  ·cases arL
 ·obtain⟨_,rfl⟩:=Prod.mk.inj (Option.some.inj arL);exact .refl _
theorem dm.Ou {p:bd} {sz:Nat} {x:Value} (h:dm G w p sz [] x):br G w p (.slc true sz []) x:=by
 obtain⟨a,cap,rfl,⟨_,rfl⟩ | ⟨g,cs,ez,bs,rfl,aC,bA,av,en,jk,al,a8,ay⟩⟩:=h.inv
 ·exact⟨aH.h5 _ _ _,a,0,rfl,.inl rfl⟩
 ·exact⟨aH.h5 _ _ _,_,cap,rfl,.inr ⟨g,cs,ez,rfl,bA g (List.mem_cons_self ..),av,en,fun j _=>a8 j⟩⟩
theorem w3 (h:Rel G s a w) {j dd:Nat} {v bF:V} {x:Value} {s1:ab} (bO:br G w (.rs 0 j) v x) (arL:e1 s dd v=some (bF,s1)):
 ∃G',Rel G' s1 a w∧br G' w (.rs 0 j) bF x∧Fr s.lv G w G' w∧ch G G'∧(∀k q,q≠.rs 0 j→G.aV k=some q→G'.aV k=some q)∧G'.S=G.S:=by
 unfold e1 at arL
 split at arL
 ·obtain⟨rfl,rfl⟩:=Prod.mk.inj (Option.some.inj arL)
  exact⟨G,h,dm.Ou bO,Fr.refl _ _ _,ch.refl _,fun _ _ _ e=>e,rfl⟩
 ·rename_i sz y l
  split at arL
  ·rename_i Ct
   split at arL
   ·rename_i aw
    obtain⟨rfl,rfl⟩:=Prod.mk.inj (Option.some.inj arL)
    obtain⟨G',J,aa,ar,aP,bf,b4⟩:=h.Gv (l:=y::l) bO (by simp) Ct aw
    exact⟨G',J,br.lQ aa (fun _ _ e=>by cases e),ar,aP,bf,b4⟩
   ·cases arL
  ·obtain⟨bs,bU,cv,dn⟩:=(bO:dm G w (.rs 0 j) sz (y::l) x)
   obtain⟨G',bL,cx,c8⟩:=Ok 8 h bU cv dn arL
   refine⟨G',bL.rel,br.lQ cx (fun _ _ e=>?_),bL.cC,bL.le,fun k q aE e=>bL.aV k q (fun ad=>?_) e,bL.S⟩
   ·subst e;cases c8
   ·rw[cv k ad]at e;exact aE (Option.some.inj e).symm
 ·rename_i l
  split at arL
  ·split at arL
   ·rename_i aw
    obtain⟨rfl,rfl⟩:=Prod.mk.inj (Option.some.inj arL)
    obtain⟨G',J,aa,ar,aP,bf,b4⟩:=h.Of (l:=l) bO aw
    exact⟨G',J,br.lQ aa (fun _ _ e=>by cases e),ar,aP,bf,b4⟩
   ·cases arL
  ·cases arL
 ·obtain⟨rfl,rfl⟩:=Prod.mk.inj (Option.some.inj arL)
  exact⟨G,h,bO,Fr.refl _ _ _,ch.refl _,fun _ _ _ e=>e,rfl⟩
theorem Gw:∀{l:List V} {s:ab} {dd:Nat} {bc:List V} {s1:ab},fA s dd l=some (bc,s1)→hz s s1:=by
 intro l
 induction l with
 | nil=>intro s dd bc s1 arL;obtain⟨_,rfl⟩:=Prod.mk.inj (Option.some.inj arL);exact .refl _
 | cons c l ag=>
   intro s dd bc s1 arL
   unfold fA at arL
   split at arL
   ·rename_i gG s2 J
    obtain⟨⟨v,s3⟩,aI,he⟩:=Option.map_eq_some_iff.1 arL
    obtain⟨_,rfl⟩:=Prod.mk.inj he
    exact(ag J).trans (Cs aI)
   ·cases arL
theorem Ov {X:Nat→Value}:∀{l:List V} {G:bh} {s:ab} {k dd:Nat} {bc:List V} {s1:ab},Rel G s a w→(∀j,j<l.length→br G w (.rs 0 (k+j)) (l.getD j .undef) (X (k+j)))→fA s dd l=some (bc,s1)→
 ∃G',Rel G' s1 a w∧bc.length=l.length∧(∀j,j<l.length→br G' w (.rs 0 (k+j)) (bc.getD j .undef) (X (k+j)))∧Fr s.lv G w G' w∧ch G G'∧(∀g q,(∀j,k≤j→q≠.rs 0 j)→G.aV g=some q→G'.aV g=some q)∧G'.S=G.S:=by
 intro l
 induction l with
 | nil=>
   intro G s k dd bc s1 h bO arL
   obtain⟨rfl,rfl⟩:=Prod.mk.inj (Option.some.inj arL)
   exact⟨G,h,rfl,fun j au=>absurd au (Nat.not_lt_zero _),Fr.refl _ _ _,ch.refl _,fun _ _ _ e=>e,rfl⟩
 | cons c l ag=>
   intro G s k dd bc s1 h bO arL
   unfold fA at arL
   split at arL
   ·rename_i gG s2 J
    obtain⟨⟨v,s3⟩,aI,he⟩:=Option.map_eq_some_iff.1 arL
    obtain⟨rfl,rfl⟩:=Prod.mk.inj he
    obtain⟨bl,aT,a2,a3,a4,a5,ng,q2⟩:=ag (k:=k+1) h (fun j au=>by
     have:=bO (j+1) (by simpa using au)
     rw[show k+1+j=k+(j+1) by omega]
     exact this) J
    have ah:br bl w (.rs 0 k) c (X k):=(bO 0 (by simp)).mono a5 fun g av=>⟨rfl,fun i=>by rw[q2],ng g _ (fun j au e=>by injection e;omega) av⟩
    obtain⟨bN,bU,cv,dn,ed,gm,iz⟩:=w3 aT ah aI
    have cG:s2.lv=s.lv:=(Gw J).lv
    refine⟨bN,bU,by simp[a2],fun j au=>?_,a4.trans (by rw[cG]at dn;exact dn),⟨fun g j c e=>ed.S _ _ _ (a5.S _ _ _ e),fun l t g e=>ed.β _ _ _ (a5.β _ _ _ e)⟩,fun g q aE e=>gm g q (aE k (Nat.le_refl _)) (ng g q (fun j au=>aE j (by omega)) e),iz.trans q2⟩
    cases j with
    | zero=>exact cv
    | succ j=>
      have:=a3 j (by simpa using au)
      rw[show k+1+j=k+(j+1) by omega]at this
      exact this.mono ed fun g av=>⟨rfl,fun i=>by rw[iz],gm g _ (fun e=>by injection e;omega) av⟩
   ·cases arL
theorem Gx {dd:Nat} {v bF:V} {s1:ab} (arL:jw s dd v=some (bF,s1)):e1 s dd v=some (bF,s1)∨(bF=v∧s1=s):=by
 unfold jw at arL
 split at arL
 ·split at arL
  ·exact .inl arL
  ·obtain⟨rfl,rfl⟩:=Prod.mk.inj (Option.some.inj arL)
   exact .inr ⟨rfl,rfl⟩
 ·exact .inl arL
theorem Ow {dd:Nat} {v bF:V} {s1:ab} (arL:jw s dd v=some (bF,s1)):hz s s1:=by
 rcases Gx arL with h | ⟨_,rfl⟩
 ·exact Cs h
 ·exact .refl _
theorem Ox (h:Rel G s a w) {j dd:Nat} {v bF:V} {x:Value} {s1:ab} (bO:br G w (.rs 0 j) v x) (arL:jw s dd v=some (bF,s1)):
 ∃G',Rel G' s1 a w∧br G' w (.rs 0 j) bF x∧Fr s.lv G w G' w∧ch G G'∧(∀k q,q≠.rs 0 j→G.aV k=some q→G'.aV k=some q)∧G'.S=G.S:=by
 rcases Gx arL with hu | ⟨rfl,rfl⟩
 ·exact w3 h bO hu
 ·exact⟨G,h,bO,Fr.refl _ _ _,ch.refl _,fun _ _ _ e=>e,rfl⟩
theorem Gy:∀{l:List V} {s:ab} {dd:Nat} {bc:List V} {s1:ab},hr s dd l=some (bc,s1)→hz s s1:=by
 intro l
 induction l with
 | nil=>intro s dd bc s1 arL;obtain⟨_,rfl⟩:=Prod.mk.inj (Option.some.inj arL);exact .refl _
 | cons c l ag=>
   intro s dd bc s1 arL
   unfold hr at arL
   split at arL
   ·rename_i gG s2 J
    obtain⟨⟨v,s3⟩,aI,he⟩:=Option.map_eq_some_iff.1 arL
    obtain⟨_,rfl⟩:=Prod.mk.inj he
    exact(ag J).trans (Ow aI)
   ·cases arL
theorem Oy {X:Nat→Value}:∀{l:List V} {G:bh} {s:ab} {k dd:Nat} {bc:List V} {s1:ab},Rel G s a w→(∀j,j<l.length→br G w (.rs 0 (k+j)) (l.getD j .undef) (X (k+j)))→hr s dd l=some (bc,s1)→
 ∃G',Rel G' s1 a w∧bc.length=l.length∧(∀j,j<l.length→br G' w (.rs 0 (k+j)) (bc.getD j .undef) (X (k+j)))∧Fr s.lv G w G' w∧ch G G'∧(∀g q,(∀j,k≤j→q≠.rs 0 j)→G.aV g=some q→G'.aV g=some q)∧G'.S=G.S:=by
 intro l
 induction l with
 | nil=>
   intro G s k dd bc s1 h bO arL
   obtain⟨rfl,rfl⟩:=Prod.mk.inj (Option.some.inj arL)
   exact⟨G,h,rfl,fun j au=>absurd au (Nat.not_lt_zero _),Fr.refl _ _ _,ch.refl _,fun _ _ _ e=>e,rfl⟩
 | cons c l ag=>
   intro G s k dd bc s1 h bO arL
   unfold hr at arL
   split at arL
   ·rename_i gG s2 J
    obtain⟨⟨v,s3⟩,aI,he⟩:=Option.map_eq_some_iff.1 arL
    obtain⟨rfl,rfl⟩:=Prod.mk.inj he
    obtain⟨bl,aT,a2,a3,a4,a5,ng,q2⟩:=ag (k:=k+1) h (fun j au=>by
     have:=bO (j+1) (by simpa using au)
     rw[show k+1+j=k+(j+1) by omega]
     exact this) J
    have ah:br bl w (.rs 0 k) c (X k):=(bO 0 (by simp)).mono a5 fun g av=>⟨rfl,fun i=>by rw[q2],ng g _ (fun j au e=>by injection e;omega) av⟩
    obtain⟨bN,bU,cv,dn,ed,gm,iz⟩:=Ox aT ah aI
    have cG:s2.lv=s.lv:=(Gy J).lv
    refine⟨bN,bU,by simp[a2],fun j au=>?_,a4.trans (by rw[cG]at dn;exact dn),⟨fun g j c e=>ed.S _ _ _ (a5.S _ _ _ e),fun l t g e=>ed.β _ _ _ (a5.β _ _ _ e)⟩,fun g q aE e=>gm g q (aE k (Nat.le_refl _)) (ng g q (fun j au=>aE j (by omega)) e),iz.trans q2⟩
    cases j with
    | zero=>exact cv
    | succ j=>
      have:=a3 j (by simpa using au)
      rw[show k+1+j=k+(j+1) by omega]at this
      exact this.mono ed fun g av=>⟨rfl,fun i=>by rw[iz],gm g _ (fun e=>by injection e;omega) av⟩
   ·cases arL
theorem Oz {bb:ab} {lv u off g:Nat} {cs sv:List V} {t:TypeId} {X:Value} (J:Rel G bb a w) (aj:bb.ob lv u=some (.box cs)) (av:G.β lv u=some g) (ai:sv.length=az P t) (U:X.cells.size=az P t) (ad:off+az P t≤cs.length) (aD:az P t≠0) (gj:sv.all mr=true)
 (bq:∀j,j<sv.length→br G w (.rs 0 j) (sv.getD j .undef) (X.cells.getD j Go.undef)):∃w' G',(storeVar t ⟨g,off,none⟩ X).run P w=.ok () w'∧Rel G' (bb.c6 lv u (.box (eg cs off sv))) a w'∧Fr bb.lv G w G' w':=by
 obtain⟨g',bT,bA,bo,hK,jG,hlen,a8,a6⟩:=J.obj lv u _ aj
 obtain rfl:g'=g:=by rw[av]at bT;exact(Option.some.inj bT).symm
 have p0:∀z∈X.cells.toList,z.oneCell'=true:=by
  intro z eW
  obtain⟨j,au,rfl⟩:=List.getElem_of_mem eW
  have di:j<sv.length:=by simp at au;omega
  have:=bq j di
  have ah:mr (sv.getD j .undef)=true:=by
   rw[List.all_eq_true]at gj
   refine gj _ ?_
   rw[List.getD_eq_getElem?_getD,List.getElem?_eq_getElem di,Option.getD_some]
   exact List.getElem_mem di
  have:=(this.one ah).2
  rw[nU (by simpa using au)]at this
  simpa using this
 have cQ:=wO (P:=P) aD jG U (off:=off) (by omega) p0
 have eU:=setRow_heap w g' bo (bo.toList.take off++X.cells.toList++bo.toList.drop (off+az P t)).toArray hK _ jG
 generalize cR:w.setRow g' (bo.toList.take off++X.cells.toList++bo.toList.drop (off+az P t)).toArray=w' at cQ eU
 have ej:∀k,k≠g'→w'.heap[k]?=w.heap[k]?:=fun k ay=>by rw[←cR];exact setRow_other w g' k _ ay
 have hM:w'.heap.size=w.heap.size:=by rw[←cR];simp
 refine⟨w',_,cQ,J.c6 (G':=G.bP (ar3 lv u off)) aj av bA (G.m6 _) rfl (fun k p ay arM aI fs=>⟨ej k ay,fun _=>rfl,?_⟩) (fun k j c ah=>?_) (fun k p arM=>by rw[hM];exact lR J.aX k p arM) (by rw[dw bA];rfl) ?_,⟨by rw[←cR];rfl,by rw[←cR];rfl,by rw[←cR];rfl,by rw[hM];exact Nat.le_refl _,fun k ay hm=>⟨ej k (by rintro rfl;exact hm _ bA trivial),?_,fun _=>rfl⟩,fun _ _ _ e=>e,fun _ _ _=>rfl⟩⟩
 ·rw[dw fs]
  cases p with
  | rs c j=>exact absurd rfl (aI c j)
  | _=>rfl
 ·have gw:k≠g':=by rintro rfl;have:G.S k j=some c:=ah;rw[a8]at this;cases this
  have:=J.cZ _ _ _ ah
  simp only[World.cell?,ej k gw]
  exact this
 ·refine⟨_,hK,eU,?_,a8,fun j au=>?_⟩
  ·rw[nW _ _ _ (by omega),wP (by simp[U]) (by omega)];exact hlen
  ·rw[nW _ _ _ (by omega)]at au
   rw[asb _ _ _ _ (by omega),zj (by simp[U]) (by omega),ai]
   by_cases dr:off≤j∧j<off+az P t
   ·rw[if_pos dr,if_pos dr]
    have:=bq (j-off) (by omega)
    have cH:=(this.bP (ar3 lv u off) (p':=.ba lv u j) (by simp only[ar3];congr 1;omega)).mono (G':=G.bP (ar3 lv u off)) (w':=w') (p':=.ba lv u j) ⟨fun _ _ _ e=>e,fun _ _ _ e=>e⟩ (fun k ay=>⟨ej k (by
     rintro rfl
     have nd:=dw (f:=ar3 lv u off) bA
     rw[ay]at nd
     cases nd),fun _=>rfl,ay⟩)
    simpa[List.getD_eq_getElem?_getD,Array.getD_eq_getD_getElem?]using cH
   ·rw[if_neg dr,if_neg dr]
    exact(a6 j au).mono (G.m6 _) (fun k ay=>⟨ej k (by rintro rfl;rw[bA]at ay;cases ay),fun _=>rfl,by rw[dw ay];rfl⟩)
 ·cases kZ:G.aV k with
  | none=>simp[bh.bP,kZ]
  | some p=>
    rw[dw kZ]
    cases p with
    | rs c j=>exact absurd trivial (hm _ kZ)
    | _=>rfl
structure zt (mk:ab→Nat→List V→Option (List V×ab)):Prop where
 q1:∀{l:List V} {s:ab} {dd:Nat} {bc:List V} {s1:ab},mk s dd l=some (bc,s1)→hz s s1
 ok:∀{a:Act} {w:World} {X:Nat→Value} {l:List V} {G:bh} {s:ab} {k dd:Nat} {bc:List V} {s1:ab},Rel G s a w→(∀j,j<l.length→br G w (.rs 0 (k+j)) (l.getD j .undef) (X (k+j)))→mk s dd l=some (bc,s1)→
  ∃G',Rel G' s1 a w∧bc.length=l.length∧(∀j,j<l.length→br G' w (.rs 0 (k+j)) (bc.getD j .undef) (X (k+j)))∧Fr s.lv G w G' w∧ch G G'∧(∀g q,(∀j,k≤j→q≠.rs 0 j)→G.aV g=some q→G'.aV g=some q)∧G'.S=G.S
theorem OA:zt fA:=⟨Gw,Ov⟩
theorem OB:zt hr:=⟨Gy,Oy⟩
theorem Cu {mk:ab→Nat→List V→Option (List V×ab)} (iQ:zt mk) {x y:Operand} {t:TypeId} {s1:ab} (h:Rel G s a w) (arL:lK P mk s t y (s.aM P 0 x)=some s1):wQ P ⟨d,.store t x y,ty,pos,af,gd⟩ G s a w s1:=by
 have U:=h.aM P 0 x
 unfold lK at arL
 generalize s.aM P 0 x=ue at arL U
 split at arL
 ·rename_i lv u off
  dsimp only at arL
  split at arL
  ·rename_i ah
   obtain⟨aqU,ai⟩:=ah
   have sk:s.all P t y≠.undef∧(∀l,s.all P t y≠.tup l)∧∃gr s2,mk (s.drop y) (s.n+64*u+off) (s.all P t y).flat=some (gr,s2)∧∃cs,s2.ob lv u=some (.box cs)∧(off+az P t≤cs.length∧az P t≠0∧gr.all mr∧gr.all (fS lv))∧s1=s2.c6 lv u (.box (eg cs off gr)):=by
    split at arL
    ·cases arL
    ·cases arL
    ·rename_i fk hx
     refine⟨fun e=>hx e,fun l e=>fk l e,?_⟩
     split at arL
     ·rename_i gr s2 hm
      refine⟨gr,s2,hm,?_⟩
      split at arL
      ·rename_i cs aj
       split at arL
       ·rename_i oa
        exact⟨cs,aj,oa,(Option.some.inj arL).symm⟩
       ·cases arL
      ·cases arL
     ·cases arL
   obtain⟨hu,aK,gr,s2,hm,cs,aj,⟨ad,aD,gj,_⟩,rfl⟩:=sk
   obtain⟨bl,J,aa,ar,_,bf,b4⟩:=h.all P t y
   obtain⟨bt,bq⟩:=(aa.qU aK).cells hu aK
   obtain⟨bN,bL,cx,c8,fK,j9,h6,pf⟩:=iQ.ok (X:=fun j=>(a.eval y).cells.getD j Go.undef) (k:=0) J (fun j au=>by rw[Nat.zero_add];exact bq j au) hm
   obtain⟨g,av,n4⟩:=U.qT
   rw[←b4]at av
   obtain⟨w',k1,fk,hx,hN⟩:=Oz (P:=P) (t:=t) (X:=a.eval y) bL aj (j9.β _ _ _ av) (by rw[cx];exact ai) (by omega) ad aD gj (fun j au=>by
    have:=c8 j (by omega)
    rw[Nat.zero_add]at this
    exact this)
   have l2:s2.lv=s.lv:=by rw[(iQ.q1 hm).lv,nc]
   refine⟨w',k1,?_,hx,(ar.trans (by rw[nc]at fK;exact fK)).trans (by rw[l2]at hN;exact hN)⟩
   simp only[execOp,Instr.storeAt,n4,Instr.sureAddr,Sem.run_bind,Sem.run_pure,Result.andThen_ok,fk]
  ·cases arL
 ·cases arL
theorem OC {i dd:Nat} {v:V} {s1:ab} (h:Rel G s a w) (op:Op) (dt:op=.move (.tmp i)∨op=.assign (.tmp i)) (arL:e1 (s.drop (.tmp i)) dd (s.t i)=some (v,s1)):
 b5 P ⟨d,op,ty,pos,af,gd⟩ G s a w v s1:=by
 obtain⟨G',J,aa,ar,_⟩:=h.take i
 have gi:(execOp a.eval ⟨d,op,ty,pos,af,gd⟩).run P w=.ok (.value (a.eval (.tmp i))) w:=by rcases dt with rfl | rfl<;>rfl
 by_cases aE:∃sz l,s.t i=.uq sz l
 ·obtain⟨sz,l,aE⟩:=aE
  have w4:br G' w (.rs 0 0) (s.t i) (a.tmps.getD i undef):=by rw[aE]at aa⊢;exact aa
  obtain⟨bN,bL,cx,c8,_⟩:=w3 J w4 arL
  have aJ:bZ bN w bd.rs v (a.eval (.tmp i)):=by
   rw[aE]at arL
   unfold e1 at arL
   split at arL
   ·obtain⟨rfl,rfl⟩:=Prod.mk.inj (Option.some.inj arL);exact cx
   ·split at arL
    ·split at arL
     ·obtain⟨rfl,rfl⟩:=Prod.mk.inj (Option.some.inj arL);exact cx
     ·cases arL
    ·have ah:=On _ arL
     cases v<;>first | exact cx | (cases ah;done)
   ·rename_i e;cases e
   ·obtain⟨rfl,rfl⟩:=Prod.mk.inj (Option.some.inj arL);exact cx
  exact⟨_,w,bN,gi,bL,aJ,ar.trans c8⟩
 ·by_cases aC:∃l,s.t i=.nw l
  ·obtain⟨l,aC⟩:=aC
   have w4:br G' w (.rs 0 0) (s.t i) (a.tmps.getD i undef):=by rw[aC]at aa⊢;exact aa
   obtain⟨bN,bL,cx,c8,_⟩:=w3 J w4 arL
   have aJ:bZ bN w bd.rs v (a.eval (.tmp i)):=by
    rw[aC]at arL
    unfold e1 at arL
    dsimp only at arL
    split at arL
    ·split at arL
     ·obtain⟨rfl,rfl⟩:=Prod.mk.inj (Option.some.inj arL);exact cx
     ·cases arL
    ·cases arL
   exact⟨_,w,bN,gi,bL,aJ,ar.trans c8⟩
  have:v=s.t i∧s1=s.drop (.tmp i):=by
   unfold e1 at arL
   split at arL
   ·rename_i e;exact absurd ⟨_,_,e⟩ aE
   ·rename_i e;exact absurd ⟨_,_,e⟩ aE
   ·rename_i e;exact absurd ⟨_,e⟩ aC
   ·obtain⟨rfl,rfl⟩:=Prod.mk.inj (Option.some.inj arL);exact⟨rfl,rfl⟩
  obtain⟨rfl,rfl⟩:=this
  exact⟨_,w,G',gi,J,aa,ar⟩
theorem OD {i:Nat} {v:V} {s1:ab} {t:TypeId} (h:Rel G s a w) (op:Op) (dt:op=.move (.tmp i)∨op=.assign (.tmp i)) (arL:s.tree P t (.tmp i)=some (v,s1)):
 b5 P ⟨d,op,ty,pos,af,gd⟩ G s a w v s1:=by
 obtain⟨G',J,aa,ar,_⟩:=h.tree arL
 exact⟨a.eval (.tmp i),w,G',by rcases dt with rfl | rfl<;>rfl,J,bZ.fT ar,aa.cC⟩
theorem b5.settle {P:Program} {o:Oper} {s s1:ab} {v:V} (ai:s1.lv=s.lv) (h:b5 P o G s a w v s1):b5 P o G s a w v.settle s1:=by
 obtain⟨x,w',bl,J,aa,ar,aP⟩:=h
 obtain⟨bN,aq,aF,aW⟩:=aa.settle ar
 exact⟨x,w',bN,J,aq,aF,aP.trans (ai▸aW)⟩
end Go.aB
