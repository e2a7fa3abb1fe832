/- New memory: rows, variables. Trees out of values; literals, makes, appends. append. -/
import Derived.Laws.IdiomRangeMap
import Derived.Great.BuildSlice
import Derived.Laws.AppendOwn
import Derived.Laws.MakeOwn
import Derived.Test.YtlecddobnippmaaGreatEvC
set_option linter.unusedVariables false
set_option linter.unusedSimpArgs false
namespace Go.aB
open Go
variable {P:Program} {G:bh} {s:ab} {a:Act} {w:World} {o:Oper}
variable {d:Option Nat} {ty:TypeId} {pos:String} {af:Array Edge} {gd:Option (Nat×Bool)}
theorem wK (h:Rel G s a w) {g j:Nat} {c:Value} (a8:G.S g j=some c):g<w.heap.size:=by
 have:=h.cZ _ _ _ a8
 unfold World.cell? at this
 split at this
 ·rename_i ad
  exact(Array.getElem?_eq_some_iff.1 ad).1
 ·cases this
theorem M0 (h:Rel G s a w) (j:Nat):G.S w.heap.size j=none:=by
 cases a8:G.S w.heap.size j with
 | none=>rfl
 | some p=>exact absurd (wK h a8) (Nat.lt_irrefl _)
theorem uo (w:World) (o:Obj) {r:Nat} (h:r<w.heap.size):(w.alloc o).heap[r]?=w.heap[r]?:=by
 show(w.heap.push o)[r]?=w.heap[r]?
 rw[Array.getElem?_push,if_neg (Nat.ne_of_lt h)]
def bh.row (G:bh) (g n:Nat) (cs:Array Value) (p:bd):bh where
 S:=fun k j=>if k=g then(if j<n then cs[j]? else none)else G.S k j
 β:=G.β
 aV:=ae G.aV g (some p)
theorem Rel.BW (h:Rel G s a w) (n:Nat) (cs:Array Value) (e:TypeId) (p:bd):
 Rel (G.row w.heap.size n cs p) s a (w.alloc (.cells cs e))∧ch G (G.row w.heap.size n cs p)∧Fr s.lv G w (G.row w.heap.size n cs p) (w.alloc (.cells cs e))∧
 (∀k q,G.aV k=some q→(w.alloc (.cells cs e)).heap[k]?=w.heap[k]?∧(∀j,(G.row w.heap.size n cs p).S k j=G.S k j)∧(G.row w.heap.size n cs p).aV k=some q):=by
 have hle:ch G (G.row w.heap.size n cs p):=⟨fun g j c ah=>by
  show(if g=w.heap.size then _ else _)=_
  rw[if_neg (Nat.ne_of_lt (wK h ah))];exact ah,fun _ _ _ ad=>ad⟩
 have al:∀k q,G.aV k=some q→(w.alloc (.cells cs e)).heap[k]?=w.heap[k]?∧(∀j,(G.row w.heap.size n cs p).S k j=G.S k j)∧(G.row w.heap.size n cs p).aV k=some q:=by
  intro k q ay
  have aL:=h.aX _ _ ay
  refine⟨uo w _ aL,fun j=>?_,?_⟩
  ·show(if k=w.heap.size then _ else _)=_
   rw[if_neg (Nat.ne_of_lt aL)]
  ·show(if k=w.heap.size then _ else _)=_
   rw[if_neg (Nat.ne_of_lt aL)];exact ay
 refine⟨h.grow hle rfl (fun g p _=>al g p) (fun g j c ah=>?_) (fun g q aE=>?_),hle,⟨rfl,rfl,rfl,by simp,fun g av hm=>⟨uo w _ av,?_,fun j=>?_⟩,hle.S,fun _ _ _=>rfl⟩,al⟩
 ·have ey:(if g=w.heap.size then(if j<n then cs[j]? else none)else G.S g j)=some c:=ah
  split at ey
  ·rename_i av
   subst av
   split at ey
   ·simp only[World.cell?,heap_alloc_new];exact ey
   ·cases ey
  ·rw[World.cell?_alloc_lt w _ _ (wK h ey)]
   exact h.cZ _ _ _ ey
 ·have e7:(if g=w.heap.size then some p else G.aV g)=some q:=aE
  split at e7
  ·rename_i av;subst av;simp
  ·have:=h.aX _ _ e7;simp;omega
 ·show(if g=w.heap.size then _ else _)=_
  rw[if_neg (Nat.ne_of_lt av)]
 ·show(if g=w.heap.size then _ else _)=_
  rw[if_neg (Nat.ne_of_lt av)]
def Laid (G:bh) (sz:Nat) (l:List V) (cs:Array Value):Prop:=l.length*sz≤cs.size∧(∀x∈l,x.flat.length=sz∧x.flat.all bM=true)∧∀i j,i<l.length→j<sz→aH G.S G.β ((l.getD i .undef).flat.getD j .undef) (cs.getD (i*sz+j) Go.undef)
theorem Laid.mono {G':bh} {sz:Nat} {l:List V} {cs:Array Value} (h:Laid G sz l cs) (hle:ch G G'):Laid G' sz l cs:=⟨h.1,h.2.1,fun i j hi au=>hle.dg (h.2.2 i j hi au)⟩
theorem jE {i j sz n:Nat} (hi:i<n) (au:j<sz):i*sz+j<n*sz:=by
 calc i*sz+j<i*sz+sz:=by omega
  _=(i+1)*sz:=by rw[Nat.succ_mul]
  _≤n*sz:=Nat.mul_le_mul_right _ hi
theorem Rel.newRow (h:Rel G s a w) {sz cap:Nat} {l:List V} {cs:Array Value} (ai:Laid G sz l cs) (m7:cs.size=cap*sz) (ah:l.length≤cap) (e:TypeId):
 ∃G',Rel G' s a (w.alloc (.cells cs e))∧bZ G' (w.alloc (.cells cs e)) bd.rs (.slc true sz l) (.slice (some ⟨w.heap.size,0,none⟩) l.length cap)∧Fr s.lv G w G' (w.alloc (.cells cs e)):=by
 obtain⟨J,aa,ar,_⟩:=h.BW (l.length*sz) cs e (.rs 0 0)
 refine⟨_,J,⟨aH.slc sz l _ 0 cap (fun i j=>cs.getD (i*sz+j) Go.undef) ah ai.2.1 (fun i j hi au=>?_) (fun i j hi au=>aa.dg (ai.2.2 i j hi au)),_,cap,rfl,.inr ⟨w.heap.size,cs,e,rfl,?_,heap_alloc_new _ _,m7,fun j au=>?_⟩⟩,ar⟩
 ·show(if w.heap.size=w.heap.size then _ else _)=_
  have bf:=jE hi au
  have b4:i*sz+j<cs.size:=Nat.lt_of_lt_of_le bf ai.1
  rw[if_pos rfl,Nat.zero_add,if_pos bf,Array.getElem?_eq_getElem b4,nU b4]
 ·show(if w.heap.size=w.heap.size then _ else _)=_
  rw[if_pos rfl]
 ·show(if w.heap.size=w.heap.size then _ else _)=_
  rw[if_pos rfl,if_neg (by omega)]
def bh.obj (G:bh) (lv t g:Nat):bh where
 S:=G.S
 β:=fun l u=>if l=lv∧u=t then some g else G.β l u
 aV:=ae G.aV g (some (.ob lv t))
theorem wL (h:Rel G s a w) {lv t:Nat} (aj:s.ob lv t=none):G.β lv t=none:=by
 cases ad:G.β lv t with
 | none=>rfl
 | some g=>obtain⟨ob,cq⟩:=h.fC _ _ _ ad;rw[aj]at cq;cases cq
theorem kX (t:Nat):s.ob s.lv t=s.b t:=by simp[ab.ob,bV,ab.lv]
theorem nX (dd:Nat) (ob:ax) (lv t:Nat):({s with b:=ae s.b dd (some ob)}:ab).ob lv t=if lv=s.lv∧t=dd then some ob else s.ob lv t:=by
 simp only[ab.ob,bV,ab.lv]
 by_cases J:lv=s.o.length
 ·simp only[J,if_true,true_and,ae]
 ·simp[J]
theorem Rel.ur (h:Rel G s a w) {dd:Nat} (aw:s.b dd=none) (o:Obj) (ob:ax) (eU:∀w',w'=w.alloc o→ch G (G.obj s.lv dd w.heap.size)→(∀k q,G.aV k=some q→w'.heap[k]?=w.heap[k]?∧(∀j,(G.obj s.lv dd w.heap.size).S k j=G.S k j)∧(G.obj s.lv dd w.heap.size).aV k=some q)→
 (∀j,(G.obj s.lv dd w.heap.size).S w.heap.size j=none)→jA (G.obj s.lv dd w.heap.size) w' s.lv dd w.heap.size ob):
 Rel (G.obj s.lv dd w.heap.size) {s with b:=ae s.b dd (some ob)} a (w.alloc o)∧Fr s.lv G w (G.obj s.lv dd w.heap.size) (w.alloc o)∧(G.obj s.lv dd w.heap.size).β s.lv dd=some w.heap.size:=by
 have dk:=wL h (lv:=s.lv) (t:=dd) (by rw[kX];exact aw)
 have hle:ch G (G.obj s.lv dd w.heap.size):=⟨fun _ _ _ ah=>ah,fun l u g av=>by
  show(if l=s.lv∧u=dd then _ else _)=_
  rw[if_neg (by rintro⟨rfl,rfl⟩;rw[dk]at av;cases av)];exact av⟩
 have al:∀k q,G.aV k=some q→(w.alloc o).heap[k]?=w.heap[k]?∧(∀j,(G.obj s.lv dd w.heap.size).S k j=G.S k j)∧(G.obj s.lv dd w.heap.size).aV k=some q:=by
  intro k q ay
  have aL:=h.aX _ _ ay
  refine⟨uo w _ aL,fun j=>rfl,?_⟩
  show(if k=w.heap.size then _ else _)=_
  rw[if_neg (Nat.ne_of_lt aL)];exact ay
 refine⟨⟨h.size,h.defers,fun t=>(h.slot t).mono hle fun c j k ay=>al k _ ay,fun lv t eV cq=>?_,fun lv t g av=>?_,fun g j c ah=>?_,fun g q aE=>?_⟩,⟨rfl,rfl,rfl,by simp,fun g av hm=>⟨uo w _ av,?_,fun j=>rfl⟩,fun _ _ _ ah=>ah,fun l t ai=>?_⟩,?_⟩
 ·rw[nX]at cq
  split at cq
  ·rename_i he
   obtain⟨rfl,rfl⟩:=he
   obtain rfl:=Option.some.inj cq
   refine⟨w.heap.size,?_,?_,eU _ rfl hle al (fun j=>M0 h j)⟩
   ·show(if _∧_ then _ else _)=_;rw[if_pos ⟨rfl,rfl⟩]
   ·show(if _=_ then _ else _)=_;rw[if_pos rfl]
  ·obtain⟨g,J,aa,ar⟩:=h.obj lv t eV cq
   obtain⟨aq,aF,aW⟩:=al g _ aa
   exact⟨g,hle.β _ _ _ J,aW,ar.mono hle ⟨aq,aF⟩ fun j k ay=>al k _ ay⟩
 ·rw[nX]
  split
  ·exact⟨_,rfl⟩
  ·rename_i aY
   have bT:(if lv=s.lv∧t=dd then some w.heap.size else G.β lv t)=some g:=av
   rw[if_neg aY]at bT
   exact h.fC _ _ _ bT
 ·have aL:=wK h ah
  rw[World.cell?_alloc_lt w _ _ aL]
  exact h.cZ _ _ _ ah
 ·have e7:(if g=w.heap.size then some (bd.ob s.lv dd)else G.aV g)=some q:=aE
  split at e7
  ·rename_i av;subst av;simp
  ·have:=h.aX _ _ e7;simp;omega
 ·show(if g=w.heap.size then _ else _)=_
  rw[if_neg (Nat.ne_of_lt av)]
 ·show(if l=s.lv∧t=dd then _ else _)=_
  rw[if_neg (fun e=>absurd e.1 (Nat.ne_of_lt ai))]
 ·show(if _∧_ then _ else _)=_
  rw[if_pos ⟨rfl,rfl⟩]
theorem uu {v:V} {x:Value} (h:agree v x=true) (p:bd) {G:bh} {w:World}:br G w p v x:=by
 unfold agree at h
 split at h
 ·simp only[beq_iff_eq]at h;subst h;exact aH.bool _
 ·simp only[Bool.and_eq_true,beq_iff_eq]at h;obtain⟨rfl,rfl⟩:=h;exact aH.int _ _
 ·simp only[Bool.and_eq_true,Array.isEmpty_iff]at h
  rename_i b c
  have:b=c:=by cases b;cases c;simp only at h;rw[h.1,h.2]
  subst this
  exact aH.str _
 ·exact⟨aH.h5 _ _ _,none,0,rfl,.inl rfl⟩
 ·exact aH.dD
 ·exact aH.bK
 ·cases h
theorem M1:∀(l:List V) (m:List Value),tQ l m=true→l.length=m.length∧∀j,j<l.length→agree (l.getD j .undef) (m.getD j Go.undef)=true:=by
 intro l
 induction l with
 | nil=>intro m h;cases m<;>simp[tQ]at h⊢
 | cons v l ag=>
   intro m h
   cases m with
   | nil=>simp[tQ]at h
   | cons x m=>
     simp only[tQ,Bool.and_eq_true]at h
     obtain⟨J,aa⟩:=ag m h.2
     refine⟨by simp[J],fun j au=>?_⟩
     cases j with
     | zero=>exact h.1
     | succ j=>exact aa j (by simpa using au)
theorem se {t:TypeId} {l:List V} (h:zero P t=some l):∃z,(∀w:World,(zeroValue t).run P w=.ok z w)∧l.length=z.cells.size∧(∀j,j<l.length→agree (l.getD j .undef) (z.cells.getD j Go.undef)=true)∧(isAgg P t=true→∃cs,z=.agg cs)∧(isAgg P t=false→z.cells=#[z]):=by
 unfold zero at h
 cases hi:P.info? t with
 | none=>simp[hi]at h
 | some i=>
   cases aD:i.zero with
   | none=>simp[hi,aD]at h
   | some z=>
     simp only[hi,Option.bind_some,aD]at h
     split at h
     ·rename_i aO
      rw[Bool.and_eq_true]at aO
      obtain⟨aO,ad⟩:=aO
      obtain rfl:=Option.some.inj h
      obtain⟨J,aa⟩:=M1 _ _ aO
      refine⟨z,fun w=>?_,by simpa using J,fun j au=>?_,fun ar=>?_,fun ar=>?_⟩
      ·simp only[zeroValue,Sem.run_bind,typeInfo,run_program,Result.andThen_ok,hi,Sem.run_pure,aD]
      ·have:=aa j au
       simpa[List.getD_eq_getElem?_getD,Array.getD_eq_getD_getElem?]using this
      ·rw[ar]at ad
       cases z<;>first | exact⟨_,rfl⟩ | cases ad
      ·rw[ar]at ad
       cases z<;>first | rfl | cases ad
     ·cases h
theorem M3 {dd:Nat} {e:TypeId} {z:List V} (h:Rel G s a w) (aw:s.b dd=none) (aD:zero P e=some z):
 b5 P ⟨d,.alloc e,ty,pos,af,gd⟩ G s a w (.ptr s.lv dd 0) {s with b:=ae s.b dd (some (.box z))}:=by
 obtain⟨cY,J,aa,ar,_⟩:=se aD
 obtain⟨aq,aF,aW⟩:=h.ur aw (.cells cY.cells e) (.box z) (fun w' cR hle al a8=>⟨cY.cells,e,by rw[cR];exact heap_alloc_new _ _,Nat.le_of_eq aa,a8,fun j au=>uu (ar j au) _⟩)
 refine⟨.pointer (some ⟨w.heap.size,0,none⟩),_,_,?_,aq,bZ.fT (aH.ptr _ _ _ _ aW),aF⟩
 simp only[execOp]
 refine eN ?_
 simp[Instr.alloc,J,newVar,Go.newRow]
theorem M4 {dd:Nat} {t:TypeId} (h:Rel G s a w) (aw:s.b dd=none):
 b5 P ⟨d,.makeMap t none,ty,pos,af,gd⟩ G s a w (.mp s.lv dd) {s with b:=ae s.b dd (some (.map []))}:=by
 obtain⟨aq,aF,aW⟩:=h.ur aw (.map #[] 0) (.map []) (fun w' cR hle al a8=>⟨#[],0,by rw[cR];exact heap_alloc_new _ _,rfl,a8,(fun x U=>by cases U),fun j au=>by cases au⟩)
 refine⟨.map (some w.heap.size),_,_,?_,aq,bZ.fT (aH.mp _ _ _ aW),aF⟩
 simp only[execOp]
 refine eN ?_
 simp[Instr.makeMap]
theorem Rel.all (h:Rel G s a w) (P:Program) (ty:TypeId) (x:Operand):
 ∃G',Rel G' (s.drop x) a w∧bZ G' w bd.rs (s.all P ty x) (a.eval x)∧Fr s.lv G w G' w∧(∀c j g,G.aV g=some (.rs c j)→G'.aV g=some (.rs c j))∧G'.S=G.S∧G'.β=G.β:=by
 cases x with
 | tmp i=>exact h.take i
 | const v=>exact⟨G,h,y9 (P:=P) (s:=s) bd.rs ty (.const v) (fun i e=>by cases e),Fr.refl _ _ _,fun _ _ _ e=>e,rfl,rfl⟩
 | func f=>exact⟨G,h,y9 (P:=P) (s:=s) bd.rs ty (.func f) (fun i e=>by cases e),Fr.refl _ _ _,fun _ _ _ e=>e,rfl,rfl⟩
 | global g=>exact⟨G,h,y9 (P:=P) (s:=s) bd.rs ty (.global g) (fun i e=>by cases e),Fr.refl _ _ _,fun _ _ _ e=>e,rfl,rfl⟩
theorem uv {v:V} {x:Value} {S:Nat→Nat→Option Value} {β:Nat→Nat→Option Nat} (h:aH S β v x) (hu:v≠.undef) (aO:∀l,v≠.agg l):x.cells=#[x]∧x.oneCell'=true:=by
 cases h<;>first | exact⟨rfl,rfl⟩ | exact absurd rfl hu | exact absurd rfl (aO _)
theorem br.one {p:bd} {v:V} {x:Value} (h:br G w p v x) (arL:mr v=true):x.cells=#[x]∧x.oneCell'=true:=by
 by_cases aE:∃sz l,v=.uq sz l
 ·obtain⟨sz,l,rfl⟩:=aE
  obtain⟨a,cap,rfl,_⟩:=dm.inv (h:dm G w p sz l x)
  exact⟨rfl,rfl⟩
 have J:=h.view
 refine uv J ?_ ?_
 ·cases v<;>first | exact absurd ⟨_,_,rfl⟩ aE | (intro e;cases e;done) | cases arL
 ·intro l;cases v<;>first | (intro e;cases e;done) | cases arL
theorem c7.cells {p:Nat→bd} {v:V} {x:Value} (h:c7 G w p v x) (hu:v≠.undef) (aK:∀l,v≠.tup l):v.flat.length=x.cells.size∧∀j,j<v.flat.length→br G w (p j) (v.flat.getD j .undef) (x.cells.getD j Go.undef):=by
 rcases FU v with⟨l,rfl⟩ | ⟨o6,aJ⟩
 ·obtain⟨cs,rfl,ai,ah⟩:=h
  exact⟨ai,ah⟩
 ·have J:br G w (p 0) v x:=by
   cases v
   case agg l=>exact absurd rfl (o6 l)
   all_goals exact h
  have aa:x.cells=#[x]:=by
   by_cases aE:∃sz l,v=.uq sz l
   ·obtain⟨sz,l,rfl⟩:=aE
    obtain⟨a,cap,rfl,_⟩:=dm.inv (J:dm G w (p 0) sz l x)
    rfl
   by_cases aC:∃l,v=.nw l
   ·obtain⟨l,rfl⟩:=aC
    obtain⟨g,cs,ty,rfl,_⟩:=(J:BH G w (p 0) l x)
    rfl
   refine(uv J.view ?_ ?_).1
   ·cases v<;>first | exact absurd ⟨_,_,rfl⟩ aE | exact absurd ⟨_,rfl⟩ aC | (intro e;cases e;done) | exact absurd rfl hu
   ·intro l e
    cases v
    case agg m=>exact o6 m rfl
    all_goals cases e
  rw[aJ,aa]
  refine⟨rfl,fun j au=>?_⟩
  obtain rfl:j=0:=by simpa using au
  exact J
theorem bZ.qU {p:Nat→Nat→bd} {v:V} {x:Value} (h:bZ G w p v x) (aK:∀l,v≠.tup l):c7 G w (p 0) v x:=by
 cases v
 case tup l=>exact absurd rfl (aK l)
 all_goals exact h
def zg (lv d off:Nat):bd→bd
 | .rs 0 j=>.ba lv d (off+j)
 | p=>p
theorem M5 {dd:Nat} {e:TypeId} {x:Operand} {v:V} (h:Rel G s a w) (aw:s.b dd=none) (arL:s.all P e x=v) (hu:v≠.undef) (aK:∀l,v≠.tup l):
 b5 P ⟨d,.box e x,ty,pos,af,gd⟩ G s a w (.ptr s.lv dd 0) {s.drop x with b:=ae s.b dd (some (.box v.flat))}:=by
 obtain⟨bl,J,aa,ar,_,_,_⟩:=h.all P e x
 rw[arL]at aa
 have cG:(s.drop x).lv=s.lv:=by cases x<;>rfl
 have ad:(s.drop x).b=s.b:=by cases x<;>rfl
 obtain⟨M6,uw⟩:=(aa.qU aK).cells hu aK
 have aP:Rel (bl.bP (zg s.lv dd 0)) (s.drop x) a w:=by
  refine⟨J.size,J.defers,fun t=>(J.slot t).bP _ fun c j=>rfl,fun lv t ob cq=>?_,J.fC,J.cZ,lR J.aX⟩
  obtain⟨g,aq,aF,aW⟩:=J.obj lv t ob cq
  exact⟨g,aq,by rw[dw aF];rfl,aW.bP _ fun j=>rfl⟩
 have bf:Fr s.lv G w (bl.bP (zg s.lv dd 0)) w:=ar.trans (o2 fun p=>by
  cases p with
  | rs c j=>exact .inr trivial
  | _=>exact .inl rfl)
 obtain⟨aq,aF,aW⟩:=aP.ur (dd:=dd) (by rw[ad];exact aw) (.cells (a.eval x).cells e) (.box v.flat) (fun w' cR hle al a8=>⟨(a.eval x).cells,e,by rw[cR];exact heap_alloc_new _ _,Nat.le_of_eq M6,a8,fun j au=>by
  refine((uw j au).bP (zg s.lv dd 0) (p':=.ba s.lv dd j) (by simp[zg])).mono hle fun g av=>?_
  obtain⟨aR,a7,cj⟩:=al g _ av
  exact⟨aR,a7,by rw[cG];rw[cG]at cj;exact cj⟩⟩)
 rw[cG]at aq aF aW
 refine⟨.pointer (some ⟨w.heap.size,0,none⟩),_,_,?_,by rw[ad]at aq;exact aq,bZ.fT (aH.ptr _ _ _ _ aW),bf.trans aF⟩
 simp only[execOp]
 refine eN ?_
 simp[Instr.box,newVar,Go.newRow]
end Go.aB
namespace Go.aB
open Go
variable {P:Program} {G:bh} {s:ab} {a:Act} {w:World} {o:Oper}
variable {d:Option Nat} {ty:TypeId} {pos:String} {af:Array Edge} {gd:Option (Nat×Bool)}
def bh.cI (G:bh) (g n:Nat) (cs:Array Value):bh:={G with S:=fun k j=>if k=g∧j<n then cs[j]? else G.S k j}
structure Still (G:bh) (s:ab) (w:World) (G':bh) (bb:ab):Prop where
 cC:Fr s.lv G w G' w
 le:ch G G'
 aV:G'.aV=G.aV
 lv:bb.lv=s.lv
 t:bb.t=s.t
 n:bb.n=s.n
 own:∀k c j,G.aV k=some (.rs c j)→∀i,G'.S k i=G.S k i
theorem Still.refl:Still G s w G s:=⟨Fr.refl _ _ _,ch.refl _,rfl,rfl,rfl,rfl,fun _ _ _ _ _=>rfl⟩
theorem Still.trans {bl bN:bh} {s1 s2:ab} (h:Still G s w bl s1) (k:Still bl s1 w bN s2):Still G s w bN s2:=
 ⟨h.cC.trans (by have:=k.cC;rw[h.lv]at this;exact this),⟨fun g j c e=>k.le.S _ _ _ (h.le.S _ _ _ e),fun l t g e=>k.le.β _ _ _ (h.le.β _ _ _ e)⟩,k.aV.trans h.aV,k.lv.trans h.lv,k.t.trans h.t,k.n.trans h.n,
   fun g c j e i=>(k.own g c j (by rw[h.aV];exact e) i).trans (h.own g c j e i)⟩
theorem Rel.c2 (h:Rel G s a w) (v:V):∃G',Rel G' (s.c2 v) a w∧Still G s w G' (s.c2 v):=by
 unfold ab.c2
 split
 ·rename_i lv t n
  split
  ·rename_i sz l aj
   obtain⟨g,av,bA,bo,hK,ad,ai,al,a6,a8⟩:=h.obj lv t _ aj
   have sf:∀j,G.S g j=none:=a8
   have hle:ch G (G.cI g (l.length*sz) bo):=⟨fun k j c ah=>by
    show(if k=g∧j<_ then _ else _)=_
    rw[if_neg (by rintro⟨rfl,_⟩;rw[sf j]at ah;cases ah)];exact ah,fun _ _ _ e=>e⟩
   have ej:∀k,k≠g→∀j,(G.cI g (l.length*sz) bo).S k j=G.S k j:=fun k ay j=>by
    show(if k=g∧j<_ then _ else _)=_
    rw[if_neg (fun e=>ay e.1)]
   refine⟨G.cI g (l.length*sz) bo,h.c6 aj av bA hle rfl (fun k p ay _ _ fs=>⟨rfl,ej k ay,fs⟩) (fun k j c ah=>?_) h.aX bA ⟨bo,hK,ad,ai,al,fun i j hi au=>hle.dg (a6 i j hi au),?_⟩,
    ⟨⟨rfl,rfl,rfl,Nat.le_refl _,fun k ay hm=>⟨rfl,rfl,ej k (by rintro rfl;exact hm _ bA trivial)⟩,hle.S,fun _ _ _=>rfl⟩,hle,rfl,zc _ _ _,lX _ _ _,BV _ _ _,fun k c j e=>ej k (by rintro rfl;rw[bA]at e;cases e)⟩⟩
   ·have ey:(if k=g∧j<l.length*sz then bo[j]? else G.S k j)=some c:=ah
    split at ey
    ·rename_i ay;obtain⟨rfl,_⟩:=ay;simp only[World.cell?,ad];exact ey
    ·exact h.cZ _ _ _ ey
   ·show ∀j,j<l.length*sz→(if g=g∧j<l.length*sz then bo[j]? else G.S g j)=some (bo.getD j Go.undef)
    intro j au
    rw[if_pos ⟨rfl,au⟩,Array.getElem?_eq_getElem (by omega),nU (by omega)]
  ·exact⟨G,h,Still.refl⟩
 ·exact⟨G,h,Still.refl⟩
theorem aH.BX {S β} {v:V} {x:Value} (h:aH S β v x):aH S β v.view x:=by
 have:v.view=v:=by
  cases v
  case agg l=>
   obtain⟨cs,_,ai,a6⟩:=h.jB
   simp only[V.view,V.agg.injEq]
   refine List.ext_getElem (by simp) fun i J aa=>?_
   have ar:=a6 i aa
   simp only[List.getD_eq_getElem?_getD,List.getElem?_eq_getElem aa,Option.getD_some]at ar
   rw[List.getElem_map]
   generalize l[i]=y at ar
   cases y<;>try rfl
   ·rename_i own sz m
    cases own
    ·rfl
    ·cases ar
   ·cases ar
   ·cases ar
  case uq=>cases h
  case nw=>cases h
  case slc own sz l=>
   cases own
   ·rfl
   ·cases h
  case tup l=>cases h
  all_goals rfl
 rw[this];exact h
theorem BY (h:Rel G s a w) {v u:V} {x:Value} (arL:aH G.S G.β v x) (aK:tree s v=some u):aH G.S G.β u x∧u.flat.all bM=true∧u≠.undef∧∀l,u≠.tup l:=by
 unfold tree at aK
 split at aK
 ·rename_i lv t n
  split at aK
  ·rename_i sz l aj
   split at aK
   ·rename_i aC
    obtain rfl:=Option.some.inj aK
    obtain⟨g,av,bA,bo,hK,ad,ai,al,a6,a8⟩:=h.obj lv t _ aj
    obtain⟨g',cap,bT,ah,U⟩:=arL.ug
    obtain rfl:g'=g:=by rw[av]at bT;exact(Option.some.inj bT).symm
    subst aC
    have sf:∀j,j<l.length*sz→G.S g' j=some (bo.getD j Go.undef):=a8
    refine⟨?_,rfl,(by intro e;cases e),fun l e=>by cases e⟩
    rw[U]
    exact aH.slc sz l g' 0 cap (fun i j=>bo.getD (i*sz+j) Go.undef) ah al (fun i j hi au=>by rw[Nat.zero_add];exact sf _ (jE hi au)) a6
   ·cases aK
  ·cases aK
 ·rename_i l
  split at aK
  ·rename_i arM
   obtain rfl:=Option.some.inj aK
   exact⟨arL.BX,arM,(by intro e;cases e),fun l e=>by cases e⟩
  ·cases aK
 ·rename_i o6 zh
  split at aK
  ·rename_i arM
   obtain rfl:=Option.some.inj aK
   have BZ:v.view=v.cM:=by
    cases v<;>first | rfl | (cases arL;done) | exact absurd rfl (zh _)
   have df:v.cM.flat=[v.cM]:=by
    cases v<;>first | rfl | exact absurd rfl (zh _)
   refine⟨BZ▸arL.BX,by rw[df];simpa using arM,?_,fun l e=>?_⟩
   ·intro e;rw[e]at arM;cases arM
   ·rw[e]at arM;cases arM
  ·cases aK
theorem Rel.tree (h:Rel G s a w) {ty:TypeId} {x:Operand} {v:V} {s1:ab} (aK:s.tree P ty x=some (v,s1)):∃G',Rel G' s1 a w∧Still G s w G' s1∧aH G'.S G'.β v (a.eval x)∧v.flat.all bM=true∧v≠.undef∧∀l,v≠.tup l:=by
 unfold ab.tree at aK
 obtain⟨u,hu,he⟩:=Option.map_eq_some_iff.1 aK
 obtain⟨rfl,rfl⟩:=Prod.mk.inj he
 obtain⟨G',J,aa⟩:=h.c2 (s.aM P ty x)
 obtain⟨aq,aF,aW,ck⟩:=BY J (aa.le.dg (h.aM P ty x)) hu
 exact⟨G',J,aa,aq,aF,aW,ck⟩
theorem Rel.trees (P:Program):∀(xs:List (TypeId×Operand)) {G:bh} {s s1:ab} {vs:List V},Rel G s a w→ab.trees P s xs=some (vs,s1)→
 ∃G',Rel G' s1 a w∧Still G s w G' s1∧vs.length=xs.length∧∀i,i<vs.length→aH G'.S G'.β (vs.getD i .undef) ((xs.map fun x=>a.eval x.2).getD i Go.undef)∧(vs.getD i .undef).flat.all bM=true∧vs.getD i .undef≠.undef∧∀l,vs.getD i .undef≠.tup l:=by
 intro xs
 induction xs with
 | nil=>
   intro G s s1 vs h aK
   simp only[ab.trees,Option.some.injEq,Prod.mk.injEq]at aK
   obtain⟨rfl,rfl⟩:=aK
   exact⟨G,h,Still.refl,rfl,fun i hi=>absurd hi (Nat.not_lt_zero _)⟩
 | cons x xs ag=>
   intro G s s1 vs h aK
   obtain⟨ty,x⟩:=x
   simp only[ab.trees]at aK
   split at aK
   ·rename_i v s2 arL
    split at aK
    ·rename_i kA s3 wM
     simp only[Option.some.injEq,Prod.mk.injEq]at aK
     obtain⟨rfl,rfl⟩:=aK
     obtain⟨bl,J,aa,ar,aP,bf,b4⟩:=h.tree arL
     obtain⟨bN,aq,aF,aW,ck⟩:=ag J wM
     refine⟨bN,aq,aa.trans aF,by simp[aW],fun i hi=>?_⟩
     cases i with
     | zero=>exact⟨aF.le.dg ar,aP,bf,b4⟩
     | succ i=>exact ck i (by simpa using hi)
    ·cases aK
   ·cases aK
theorem aH.FV {S β} {v:V} {x:Value} (h:aH S β v x):v.cM=v:=by
 cases v<;>try rfl
 ·rename_i own sz m
  cases own
  ·rfl
  ·cases h
 ·cases h
 ·cases h
theorem zi {v:V} {x:Value} (h:aH G.S G.β v x) (hu:v≠.undef):v.flat.length=x.cells.size∧∀j,j<v.flat.length→aH G.S G.β (v.flat.getD j .undef) (x.cells.getD j Go.undef):=by
 have aK:∀l,v≠.tup l:=by rintro l rfl;cases h
 obtain⟨J,aa⟩:=(c7.fT (w:=default) (p:=fun _=>.rs 0 0) h).cells hu aK
 refine⟨J,fun j au=>?_⟩
 have ar:=aa j au
 have aP:v.flat.getD j .undef=(v.flat.getD j .undef).cM:=by
  rcases FU v with⟨l,rfl⟩ | ⟨o6,aJ⟩
  ·obtain⟨cs,_,ai,a6⟩:=h.jB
   exact(a6 j au).FV.symm
  ·rw[aJ]
   have:j=0:=by rw[aJ]at au;simpa using au
   subst this
   exact h.FV.symm
 rw[aP]
 exact ar.view
theorem FW (f:Operand→Value):∀(l:List (Nat×Operand)) (k:Nat),m0 k l=true→l.map (fun p=>(p.1,f p.2))=((l.map fun p=>f p.2).zipIdx k).map fun x=>(x.2,x.1):=by
 intro l
 induction l with
 | nil=>intro k _;rfl
 | cons p l ag=>
   intro k h
   simp only[m0]at h
   split at h
   ·rename_i arM
    simp only[List.map_cons,List.zipIdx_cons]
    rw[ag (k+1) h,arM]
   ·cases h
theorem M7 {sz:Nat} (aD:0<sz) {vs:List V} {xs:List Value} (ai:vs.length=xs.length) (a6:∀i,i<vs.length→aH G.S G.β (vs.getD i .undef) (xs.getD i Go.undef)∧(vs.getD i .undef).flat.all bM=true∧vs.getD i .undef≠.undef)
 (aJ:∀v∈vs,v.flat.length=sz):Laid G sz vs (xs.flatMap fun v=>v.cells.toList).toArray∧(∀x∈xs,x.cells.size=sz)∧(xs.flatMap fun v=>v.cells.toList).length=vs.length*sz:=by
 have ct:∀x∈xs,x.cells.size=sz:=by
  intro x U
  obtain⟨i,hi,rfl⟩:=List.getElem_of_mem U
  obtain⟨J,aa,ar⟩:=a6 i (by omega)
  have aP:=(zi J ar).1
  rw[List.getD_eq_getElem?_getD,List.getElem?_eq_getElem (by omega),Option.getD_some]at aP
  rw[List.getD_eq_getElem?_getD,List.getElem?_eq_getElem hi,Option.getD_some]at aP
  rw[←aP]
  exact aJ _ (List.getElem_mem _)
 have hlen:∀(ei:List Value),(∀x∈ei,x.cells.size=sz)→(ei.flatMap fun v=>v.cells.toList).length=ei.length*sz:=by
  intro ei
  induction ei with
  | nil=>intro _;simp
  | cons y ei ag=>
    intro h
    rw[List.flatMap_cons,List.length_append,ag (fun x U=>h x (List.mem_cons_of_mem _ U)),List.length_cons,Nat.succ_mul,Array.length_toList,h y List.mem_cons_self,Nat.add_comm]
 refine⟨⟨by rw[List.size_toArray,hlen xs ct,ai];exact Nat.le_refl _,fun v arL=>⟨aJ v arL,?_⟩,fun i j hi au=>?_⟩,ct,by rw[hlen xs ct,ai]⟩
 ·obtain⟨i,hi,rfl⟩:=List.getElem_of_mem arL
  have:=(a6 i hi).2.1
  rwa [List.getD_eq_getElem?_getD,List.getElem?_eq_getElem hi,Option.getD_some]at this
 ·obtain⟨J,aa,ar⟩:=a6 i hi
  obtain⟨aP,bf⟩:=zi J ar
  have dI:i<xs.length:=by omega
  have aR:xs.getD i Go.undef=xs[i]:=by rw[List.getD_eq_getElem?_getD,List.getElem?_eq_getElem dI,Option.getD_some]
  rw[aR]at bf aP
  have di:j<(vs.getD i .undef).flat.length:=by rw[aP,ct _ (List.getElem_mem _)];exact au
  have b4:=bf j di
  have dh:(xs.flatMap fun v=>v.cells.toList).toArray.getD (i*sz+j) Go.undef=xs[i].cells.getD j Go.undef:=by
   have av:=Great.flat_get aD xs ct (i*sz+j)
   have d1:(i*sz+j) / sz=i:=by rw[Nat.mul_comm,Nat.mul_add_div aD,Nat.div_eq_of_lt au,Nat.add_zero]
   have d2:(i*sz+j)%sz=j:=by rw[Nat.mul_comm,Nat.mul_add_mod,Nat.mod_eq_of_lt au]
   rw[d1,d2,List.getElem?_eq_getElem dI,Option.bind_some]at av
   rw[Array.getD_eq_getD_getElem?,Array.getD_eq_getD_getElem?,←av]
   simp
  rw[dh]
  exact b4
theorem B0 {t e:TypeId} {n:Nat} {ps:Array (Nat×Operand)} {z:List V} (hu:P.underlying t=some (.slice e)) (aD:az P e≠0) (hzero:zero P e=some z) (aj:m0 0 ps.toList=true) (aC:ps.size=n) (ux:n*az P e≤16777216)
 (ah:∀x∈ps.toList.map fun p=>a.eval p.2,x.cells.size=az P e) (w:World):
 (Instr.buildSlice t n (ps.map fun(i,x)=>(i,a.eval x))).run P w=.ok (.slice (some ⟨w.heap.size,0,none⟩) n n) (w.alloc (.cells ((ps.toList.map fun p=>a.eval p.2).flatMap fun v=>v.cells.toList).toArray e)):=by
 obtain⟨i,d,J,aa,ar,aP⟩:=lS aD
 have B1:(ps.map fun(i,x)=>(i,a.eval x)).toList=((ps.toList.map fun p=>a.eval p.2).zipIdx 0).map fun x=>(x.2,x.1):=by
  rw[Array.toList_map]
  exact FW a.eval ps.toList 0 aj
 obtain⟨M8,nY⟩:∃cY,i.zero=some cY:=by
  unfold zero at hzero
  cases bj:i.zero with
  | none=>simp[J,bj]at hzero
  | some cY=>exact⟨cY,rfl⟩
 by_cases arM:n*i.size=0
 ·have uy:n=0:=by
   rcases Nat.mul_eq_zero.1 arM with h | h
   ·exact h
   ·omega
  have:ps=#[]:=by
   apply Array.eq_empty_of_size_eq_zero
   omega
  subst this
  subst uy
  simp[Instr.buildSlice,run_underlying hu,sizeOf,typeInfo,J,Instr.fill,Go.newRow]
  rw[show Array.map (fun x=>(default:Value)) (Array.range 0)=#[]from Array.eq_empty_of_size_eq_zero (by simp)]
 ·refine run_buildSlice w t e n _ _ i M8 hu J nY (by rw[←ar];omega) arM ?_
  rw[B1,←ar]
  exact Great.fill_whole (by omega) _ _ ah (by simp[aC])
theorem B2 {t e:TypeId} {n:Nat} {ps:Array (Nat×Operand)} {vs:List V} {s1:ab} (h:Rel G s a w) (aD:az P e≠0) (aK:ab.trees P s (ps.toList.map fun p=>(e,p.2))=some (vs,s1)) (aJ:vs.all (fun v=>v.flat.length==az P e)=true):
 ∃G',Rel G' s1 a w∧Still G s w G' s1∧vs.length=ps.size∧Laid G' (az P e) vs ((ps.toList.map fun p=>a.eval p.2).flatMap fun v=>v.cells.toList).toArray∧(∀x∈ps.toList.map fun p=>a.eval p.2,x.cells.size=az P e)∧
  (((ps.toList.map fun p=>a.eval p.2).flatMap fun v=>v.cells.toList).toArray).size=vs.length*az P e:=by
 obtain⟨G',J,aa,ar,aP⟩:=Rel.trees P _ h aK
 have my:(ps.toList.map fun p=>(e,p.2)).map (fun x=>a.eval x.2)=ps.toList.map fun p=>a.eval p.2:=by rw[List.map_map];rfl
 rw[my]at aP
 have ai:vs.length=ps.size:=by simpa using ar
 obtain⟨aq,aF,aW⟩:=M7 (G:=G') (sz:=az P e) (by omega) (vs:=vs) (xs:=ps.toList.map fun p=>a.eval p.2) (by simpa using ai) (fun i hi=>⟨(aP i hi).1,(aP i hi).2.1,(aP i hi).2.2.1⟩) (fun v arL=>by
  rw[List.all_eq_true]at aJ;simpa using aJ v arL)
 exact⟨G',J,aa,ai,aq,aF,by rw[List.size_toArray];exact aW⟩
theorem M9 {t e:TypeId} {n:Nat} {ps:Array (Nat×Operand)} {vs z:List V} {s1:ab} (h:Rel G s a w) (hu:P.underlying t=some (.slice e)) (aD:az P e≠0) (hzero:zero P e=some z) (aj:m0 0 ps.toList=true) (aC:ps.size=n) (ux:n*az P e≤16777216)
 (aK:ab.trees P s (ps.toList.map fun p=>(e,p.2))=some (vs,s1)) (aJ:vs.all (fun v=>v.flat.length==az P e)=true):b5 P ⟨d,.buildSlice t n ps,ty,pos,af,gd⟩ G s a w (.slc true (az P e) vs) s1:=by
 obtain⟨bl,J,aa,ar,aP,bf,b4⟩:=B2 (t:=t) (n:=n) h aD aK aJ
 obtain⟨bN,aq,aF,aW⟩:=J.newRow (cap:=n) aP (by rw[b4,ar,aC]) (by omega) e
 refine⟨.slice (some ⟨w.heap.size,0,none⟩) n n,_,bN,?_,aq,?_,aa.cC.trans (by rw[aa.lv]at aW;exact aW)⟩
 ·simp only[execOp]
  exact eN (B0 hu aD hzero aj aC ux bf w)
 ·rw[show vs.length=n by omega]at aF
  exact aF
theorem Na {t e:TypeId} {n dd:Nat} {ps:Array (Nat×Operand)} {vs z:List V} {s1:ab} (h:Rel G s a w) (hu:P.underlying t=some (.slice e)) (aD:az P e≠0) (hzero:zero P e=some z) (aj:m0 0 ps.toList=true) (aC:ps.size=n) (ux:n*az P e≤16777216)
 (aK:ab.trees P s (ps.toList.map fun p=>(e,p.2))=some (vs,s1)) (aJ:vs.all (fun v=>v.flat.length==az P e)=true) (aw:s1.b dd=none):
 b5 P ⟨d,.buildSlice t n ps,ty,pos,af,gd⟩ G s a w (.bS s.lv dd n) {s1 with b:=ae s1.b dd (some (.arr false (az P e) vs))}:=by
 obtain⟨bl,J,aa,ar,aP,bf,b4⟩:=B2 (t:=t) (n:=n) h aD aK aJ
 obtain⟨aq,aF,aW⟩:=J.ur aw (.cells ((ps.toList.map fun p=>a.eval p.2).flatMap fun v=>v.cells.toList).toArray e) (.arr false (az P e) vs) (fun w' cR hle al a8=>⟨_,e,by rw[cR];exact heap_alloc_new _ _,(aP.mono hle).1,(aP.mono hle).2.1,(aP.mono hle).2.2,a8⟩)
 rw[aa.lv]at aq aF aW
 refine⟨.slice (some ⟨w.heap.size,0,none⟩) n n,_,_,?_,aq,bZ.fT (aH.bS _ _ _ _ _ aW (Nat.le_refl _)),aa.cC.trans aF⟩
 simp only[execOp]
 exact eN (B0 hu aD hzero aj aC ux bf w)
theorem Nb {t e:TypeId} (hu:P.underlying t=some (.slice e)) {z:List V} (aD:zero P e=some z) (hlen:z.length=az P e) (aC:az P e≠0) (df:(eB P t).flat.length=az P e):
 ∃cY,(∀w:World,(zeroValue e).run P w=.ok cY w)∧cY.cells.size=az P e∧(eB P t).flat.length=az P e∧((eB P t).flat.all bM=true)∧∀j,j<az P e→aH G.S G.β ((eB P t).flat.getD j .undef) (cY.cells.getD j Go.undef):=by
 obtain⟨cY,J,aa,ar,_⟩:=se aD
 have arM:∀v (x:Value),agree v x=true→bM v.cM=true∧(∀l,v≠.agg l)∧(∀l,v≠.tup l):=by
  intro v x h
  unfold agree at h
  split at h
  all_goals first | exact⟨rfl,(fun l e=>by cases e),fun l e=>by cases e⟩ | cases h
 have aw:(eB P t).flat=z.map V.cM:=by
  unfold eB
  have he:elemOf P t=e:=by simp[elemOf,hu]
  rw[he,aD,Option.getD_some]
  cases aO:isAgg P e
  ·obtain⟨i,d,aq,aF,aW,ck⟩:=lS aC
   cases z with
   | nil=>simp at hlen;omega
   | cons v z=>
     have aP:=arM _ _ (ar 0 (by simp))
     simp only[List.getD_cons_zero]at aP
     cases z with
     | nil=>
       simp only[pack,Bool.false_eq_true,if_false,List.headD_cons,List.map_cons,List.map_nil]
       cases v
       case agg l=>exact absurd rfl (aP.2.1 l)
       case tup l=>exact absurd rfl (aP.2.2 l)
       all_goals rfl
     | cons u z=>
       exfalso
       have:(eB P t).flat.length=1:=by
        unfold eB
        rw[he,aD,Option.getD_some,aO]
        simp only[pack,Bool.false_eq_true,if_false,List.headD_cons]
        cases v
        case agg l=>exact absurd rfl (aP.2.1 l)
        case tup l=>exact absurd rfl (aP.2.2 l)
        all_goals rfl
       simp only[List.length_cons]at hlen
       omega
  ·rfl
 refine⟨cY,J,by omega,by rw[aw,List.length_map];exact hlen,?_,fun j au=>?_⟩
 ·rw[aw,List.all_eq_true]
  intro x U
  obtain⟨y,aA,rfl⟩:=List.mem_map.1 U
  obtain⟨j,au,rfl⟩:=List.getElem_of_mem aA
  have:=ar j au
  rw[List.getD_eq_getElem?_getD,List.getElem?_eq_getElem au,Option.getD_some]at this
  exact(arM _ _ this).1
 ·rw[aw,ar9]
  exact(uu (G:=G) (w:=default) (ar j (by omega)) (.rs 0 0)).view
theorem B3 {t e:TypeId} (hu:P.underlying t=some (.slice e)) {z:List V} (aD:zero P e=some z) (hlen:z.length=az P e) (aC:az P e≠0) (df:(eB P t).flat.length=az P e) (n m:Nat) (arY:n≤m):
 ∃i cY,P.info? e=some i∧i.zero=some cY∧i.size=az P e∧Laid G (az P e) (List.replicate n (eB P t)) (madeCells cY.cells (m*az P e))∧(madeCells cY.cells (m*az P e)).size=m*az P e:=by
 obtain⟨i,d,J,aa,ar,aP⟩:=lS aC
 obtain⟨cY,aq,aF,aW,ck,ek⟩:=Nb (G:=G) hu aD hlen aC df
 have nY:i.zero=some cY:=by
  have:=aq default
  simp only[zeroValue,Sem.run_bind,typeInfo,run_program,Result.andThen_ok,J,Sem.run_pure]at this
  cases bj:i.zero with
  | none=>simp[bj]at this
  | some y=>simp[bj]at this;rw[this]
 have ct:(madeCells cY.cells (m*az P e)).size=m*az P e:=by simp[madeCells]
 refine⟨i,cY,J,nY,ar.symm,⟨?_,fun x U=>?_,fun p q arM aE=>?_⟩,ct⟩
 ·rw[ct,List.length_replicate];exact Nat.mul_le_mul_right _ arY
 ·rw[List.eq_of_mem_replicate U];exact⟨aW,ck⟩
 ·rw[List.length_replicate]at arM
  have aR:(List.replicate n (eB P t)).getD p .undef=eB P t:=by simp[List.getD_eq_getElem?_getD,arM]
  rw[aR]
  have b4:=jE (Nat.lt_of_lt_of_le arM arY) aE
  have a7:(madeCells cY.cells (m*az P e)).getD (p*az P e+q) Go.undef=cY.cells.getD q Go.undef:=by
   have e7:q<cY.cells.size:=by omega
   have Nc:(p*az P e+q)%cY.cells.size=q:=by rw[aF,Nat.mul_comm,Nat.mul_add_mod,Nat.mod_eq_of_lt aE]
   simp[madeCells,Array.getD,b4,Nc,e7]
  rw[a7]
  exact ek q aE
theorem B4 {t e:TypeId} {i:TypeInfo} {cY:Value} (hu:P.underlying t=some (.slice e)) (hi:P.info? e=some i) (aD:i.zero=some cY) (lW nZ:IntKind) {n m:Int} (bn:0≤n) (arY:n≤m) (eO:P.bytesOf e≠0) (ad:m*P.bytesOf e≤140737488355328) (w:World):
 (Instr.makeSlice t (.int lW n) (.int nZ m)).run P w=.ok (.slice (some ⟨w.heap.size,0,none⟩) n.toNat m.toNat) (w.alloc (.cells (madeCells cY.cells (m.toNat*i.size)) e)):=by
 have wN:P.bytesOf e=i.bytes:=by simp[Program.bytesOf,hi]
 rw[wN]at ad eO
 have J:m≤m*i.bytes:=by
  have:(1:Int)≤i.bytes:=by omega
  calc m=m*1:=by omega
   _≤m*i.bytes:=Int.mul_le_mul_of_nonneg_left this (by omega)
 exact run_make w t e i cY hu hi aD lW nZ n m bn arY (by rw[Int.mul_comm];omega) (by omega)
theorem Nd {t e:TypeId} {x y:Operand} {z:List V} {lW nZ:IntKind} {n m:Int} (h:Rel G s a w) (hu:P.underlying t=some (.slice e)) (U:s.aM P 0 x=.int lW n) (aA:s.aM P 0 y=.int nZ m) (aD:zero P e=some z) (hlen:z.length=az P e) (aC:az P e≠0) (df:(eB P t).flat.length=az P e)
 (eO:P.bytesOf e≠0) (bn:0≤n) (arY:n≤m) (ad:m*P.bytesOf e≤140737488355328):b5 P ⟨d,.makeSlice t x y,ty,pos,af,gd⟩ G s a w (.slc true (az P e) (List.replicate n.toNat (eB P t))) s:=by
 obtain⟨i,cY,J,aa,ar,aP,bf⟩:=B3 (G:=G) hu aD hlen aC df n.toNat m.toNat (by omega)
 obtain⟨bN,aq,aF,aW⟩:=h.newRow (cap:=m.toNat) aP bf (by simp;omega) e
 have aR:=h.aM P 0 x
 have a7:=h.aM P 0 y
 rw[U]at aR
 rw[aA]at a7
 refine⟨.slice (some ⟨w.heap.size,0,none⟩) n.toNat m.toNat,_,bN,?_,aq,?_,aW⟩
 ·simp only[execOp]
  refine eN ?_
  rw[aR.fD,a7.fD,B4 hu J aa lW nZ bn arY eO ad,ar]
 ·rw[List.length_replicate]at aF;exact aF
theorem Nf {t e:TypeId} {dd:Nat} {x y:Operand} {z:List V} {lW nZ:IntKind} {n m:Int} (h:Rel G s a w) (hu:P.underlying t=some (.slice e)) (U:s.aM P 0 x=.int lW n) (aA:s.aM P 0 y=.int nZ m) (aD:zero P e=some z) (hlen:z.length=az P e) (aC:az P e≠0) (df:(eB P t).flat.length=az P e)
 (eO:P.bytesOf e≠0) (bn:0≤n) (arY:n≤m) (ad:m*P.bytesOf e≤140737488355328) (aw:s.b dd=none):
 b5 P ⟨d,.makeSlice t x y,ty,pos,af,gd⟩ G s a w (.bS s.lv dd n.toNat) {s with b:=ae s.b dd (some (.arr false (az P e) (List.replicate n.toNat (eB P t))))}:=by
 obtain⟨i,cY,J,aa,ar,aP,bf⟩:=B3 (G:=G) hu aD hlen aC df n.toNat m.toNat (by omega)
 obtain⟨aq,aF,aW⟩:=h.ur aw (.cells (madeCells cY.cells (m.toNat*az P e)) e) (.arr false (az P e) (List.replicate n.toNat (eB P t))) (fun w' cR hle al a8=>⟨_,e,by rw[cR];exact heap_alloc_new _ _,(aP.mono hle).1,(aP.mono hle).2.1,(aP.mono hle).2.2,a8⟩)
 have aR:=h.aM P 0 x
 have a7:=h.aM P 0 y
 rw[U]at aR
 rw[aA]at a7
 refine⟨.slice (some ⟨w.heap.size,0,none⟩) n.toNat m.toNat,_,_,?_,aq,bZ.fT (aH.bS _ _ _ _ _ aW (by omega)),aF⟩
 simp only[execOp]
 refine eN ?_
 rw[aR.fD,a7.fD,B4 hu J aa lW nZ bn arY eO ad,ar]
end Go.aB
namespace Go.aB
open Go
variable {P:Program} {G:bh} {s:ab} {a:Act} {w:World} {o:Oper}
variable {d:Option Nat} {ty:TypeId} {pos:String} {af:Array Edge} {gd:Option (Nat×Bool)}
theorem Rel.drew (h:Rel G s a w):Rel G s a w.drew:=⟨h.size,h.defers,fun t=>(h.slot t).mono (ch.refl _) (fun _ _ _ e=>⟨rfl,fun _=>rfl,e⟩),fun lv t ob aj=>by
 obtain⟨g,aT,a2,a3⟩:=h.obj lv t ob aj
 exact⟨g,aT,a2,a3.mono (ch.refl _) ⟨rfl,fun _=>rfl⟩ fun j k ay=>⟨rfl,fun _=>rfl,ay⟩⟩,h.fC,h.cZ,h.aX⟩
theorem Fr.drew {lv:Nat} {G':bh} {w':World} (h:Fr lv G w.drew G' w'):Fr lv G w G' w':=⟨h.os,h.tape,h.output,h.size,h.mq,h.cZ,h.outer⟩
theorem FX {t tx tyy e:TypeId} {i:TypeInfo} {kY:TypeDesc} {A:Option Addr} {n cap m:Nat} {Y:Value} {news:List Value} (aK:P.underlying t=some (.slice e)) (hi:P.info? e=some i) (U:P.underlying tx=some kY) (ay:∀k,kY≠.int k)
 (hlen:(Builtin.lenOf Y).run P w=.ok m w) (aJ:(Builtin.firstCells i.size m Y).run P w=.ok news.toArray w) (qV:n+m≤cap):
 (Builtin.append_ #[t,tx] tyy #[.slice A n cap,Y]).run P w=match A with
  | none=>.ok (.slice none (n+m) cap) w
  | some b=>((storeCells (b.add (n*i.size)) news).run P w).andThen fun _ w'=>.ok (.slice (some b) (n+m) cap) w':=by
 have aD:(kY matches .int _)=false:=by cases kY<;>first | rfl | exact absurd rfl (ay _)
 cases A<;>simp[Builtin.append_,run_underlying aK,run_underlying U,sizeOf,typeInfo,hi,aD,hlen,qV,aJ]
theorem FY {t tx tyy e:TypeId} {i:TypeInfo} {z:Value} {kY:TypeDesc} {A:Option Addr} {n cap m:Nat} {Y:Value} {news olds:List Value} (aK:P.underlying t=some (.slice e)) (hi:P.info? e=some i) (aD:i.zero=some z) (U:P.underlying tx=some kY) (ay:∀k,kY≠.int k)
 (hlen:(Builtin.lenOf Y).run P w=.ok m w) (aJ:(Builtin.firstCells i.size m Y).run P w.drew=.ok news.toArray w.drew) (aj:(Builtin.firstCells i.size n (.slice A n cap)).run P w.drew=.ok olds.toArray w.drew) (eO:0<i.bytes)
 (av:cap<n+m) (n0:(n+m)*i.bytes≤140737488355328):
 (Builtin.append_ #[t,tx] tyy #[.slice A n cap,Y]).run P w=.ok (.slice (some ⟨w.heap.size,0,none⟩) (n+m) (grownCap w (n+m) cap e))
  (w.drew.alloc (.cells (olds.toArray++news.toArray++Builtin.zeroCells z.cells (grownCap w (n+m) cap e-(n+m))) e)):=by
 have mz:(kY matches .int _)=false:=by cases kY<;>first | rfl | exact absurd rfl (ay _)
 have aC:¬(n+m≤cap):=by omega
 have J:n+m≤(n+m)*i.bytes:=Nat.le_mul_of_pos_right _ eO
 have Ng:¬(9223372036854775807<((n:Int)+(m:Int))):=by omega
 have FZ:=growslice_fits av n0
 have Nh:¬(281474976710656<Builtin.nextslicecap (n+m) cap*i.bytes):=by omega
 simp[Builtin.append_,run_underlying aK,run_underlying U,sizeOf,typeInfo,zeroValue,hi,aD,mz,hlen,aC,Ng,Nh,Question.forced,aJ,aj,Go.newRow,grownCap]
 congr 2
 apply Array.ext'
 simp[List.append_assoc]
theorem B5 (h:Rel G s a w) {sz:Nat} (aD:0<sz) {l:List V} {x:Value} (arL:aH G.S G.β (.slc false sz l) x):∃cs:List Value,(Builtin.lenOf x).run P w=.ok l.length w∧(Builtin.firstCells sz l.length x).run P w=.ok cs.toArray w∧(Builtin.firstCells sz l.length x).run P w.drew=.ok cs.toArray w.drew∧
 Laid G sz l cs.toArray∧cs.length=l.length*sz∧∀u∈cs,u.oneCell'=true:=by
 rcases arL.sa with⟨rfl,sb,wI,rfl⟩ | ⟨b,o,cap,c,rfl,ah,al,a8,a6⟩
 ·exact⟨[],rfl,by cases sb<;>first | rfl | simp[Builtin.firstCells,loadCells,loadCellsFrom],by cases sb<;>first | rfl | simp[Builtin.firstCells,loadCells,loadCellsFrom],⟨by simp,(fun x U=>by cases U),fun i j hi=>absurd hi (Nat.not_lt_zero _)⟩,by simp,fun u hu=>by cases hu⟩
 ·have aR:=zb h a8 P
  have a7:=zb h.drew a8 P
  have hlen:((List.range (l.length*sz)).map fun k=>c (k / sz) (k%sz)).length=l.length*sz:=by simp
  refine⟨(List.range (l.length*sz)).map fun k=>c (k / sz) (k%sz),rfl,aR,a7,⟨by simp,al,fun i j hi au=>?_⟩,hlen,fun u hu=>?_⟩
  ·have bf:=jE hi au
   have d1:(i*sz+j) / sz=i:=by rw[Nat.mul_comm,Nat.mul_add_div aD,Nat.div_eq_of_lt au,Nat.add_zero]
   have d2:(i*sz+j)%sz=j:=by rw[Nat.mul_comm,Nat.mul_add_mod,Nat.mod_eq_of_lt au]
   have:((List.range (l.length*sz)).map fun k=>c (k / sz) (k%sz)).toArray.getD (i*sz+j) Go.undef=c i j:=by
    simp[Array.getD,bf,d1,d2]
   rw[this]
   exact a6 i j hi au
  ·obtain⟨k,ay,rfl⟩:=List.mem_map.1 hu
   have e4:k<l.length*sz:=by simpa using ay
   have J:k / sz<l.length:=Nat.div_lt_of_lt_mul (by rw[Nat.mul_comm];exact e4)
   have aa:k%sz<sz:=Nat.mod_lt _ aD
   have ar:=a6 _ _ J aa
   have aP:=al (l.getD (k / sz) .undef) (by rw[List.getD_eq_getElem?_getD,List.getElem?_eq_getElem J];exact List.getElem_mem J)
   have bf:bM ((l.getD (k / sz) .undef).flat.getD (k%sz) .undef)=true:=by
    have aL:k%sz<(l.getD (k / sz) .undef).flat.length:=by rw[aP.1];exact aa
    have:=aP.2
    rw[List.all_eq_true]at this
    refine this _ ?_
    rw[List.getD_eq_getElem?_getD (l:=(l.getD (k / sz) .undef).flat),List.getElem?_eq_getElem aL]
    exact List.getElem_mem aL
   refine(uv ar ?_ ?_).2
   ·intro e;rw[e]at bf;cases bf
   ·intro l e;rw[e]at bf;cases bf
theorem F0 {sz:Nat} (b:ByteArray):∃cs:List Value,(Builtin.lenOf (.string b)).run P w=.ok b.size w∧(Builtin.firstCells 1 b.size (.string b)).run P w=.ok cs.toArray w∧(Builtin.firstCells 1 b.size (.string b)).run P w.drew=.ok cs.toArray w.drew∧
 Laid G 1 (gX b) cs.toArray∧cs.length=(gX b).length*1∧(gX b).length=b.size∧∀u∈cs,u.oneCell'=true:=by
 have ai:(gX b).length=b.size:=by simp[gX]
 have U:(b.extract 0 b.size)=b:=by simp
 refine⟨b.data.toList.map fun c=>.int .u8 (c.toNat:Int),rfl,?_,?_,⟨?_,fun x U=>?_,fun i j hi au=>?_⟩,by simp[gX],ai,fun u hu=>?_⟩
 ·simp only[Builtin.firstCells,Sem.run_pure,U]
  congr 1
  apply Array.ext'
  simp
 ·simp only[Builtin.firstCells,Sem.run_pure,U]
  congr 1
  apply Array.ext'
  simp
 ·simp[gX]
 ·obtain⟨c,_,rfl⟩:=List.mem_map.1 U;exact⟨rfl,rfl⟩
 ·obtain rfl:j=0:=by omega
  have dI:i<b.data.toList.length:=by simpa[gX]using hi
  have aR:(gX b).getD i .undef=.int .u8 ((b.data.toList[i]).toNat:Int):=by
   simp only[gX,List.getD_eq_getElem?_getD,List.getElem?_map,List.getElem?_eq_getElem dI,Option.map_some,Option.getD_some]
  have a7:((b.data.toList.map fun c=>Value.int .u8 (c.toNat:Int)).toArray).getD (i*1+0) Go.undef=.int .u8 ((b.data.toList[i]).toNat:Int):=by
   have:i<b.data.size:=by simpa using dI
   have aZ:i<b.size:=this
   simp[Array.getD,this,aZ]
  rw[aR,a7]
  exact aH.int _ _
 ·obtain⟨c,_,rfl⟩:=List.mem_map.1 hu;rfl
theorem Laid.append {sz:Nat} {l m:List V} {cs qW rest:List Value} (h:Laid G sz l cs.toArray) (k:Laid G sz m qW.toArray) (ai:cs.length=l.length*sz) (hm:qW.length=m.length*sz):Laid G sz (l++m) (cs++qW++rest).toArray:=by
 refine⟨by simp[ai,hm,Nat.add_mul],fun x U=>?_,fun i j hi au=>?_⟩
 ·rcases List.mem_append.1 U with U | U
  ·exact h.2.1 x U
  ·exact k.2.1 x U
 ·by_cases J:i<l.length
  ·have aR:(l++m).getD i .undef=l.getD i .undef:=by simp[List.getD_eq_getElem?_getD,List.getElem?_append_left J]
   have aa:=jE J au
   have a7:(cs++qW++rest).toArray.getD (i*sz+j) Go.undef=cs.toArray.getD (i*sz+j) Go.undef:=by
    simp only[Array.getD_eq_getD_getElem?,List.getElem?_toArray,List.append_assoc]
    rw[List.getElem?_append_left (by omega)]
   rw[aR,a7]
   exact h.2.2 i j J au
  ·have ar:i-l.length<m.length:=by simp at hi;omega
   have aR:(l++m).getD i .undef=m.getD (i-l.length) .undef:=by simp[List.getD_eq_getElem?_getD,List.getElem?_append_right (by omega:l.length≤i)]
   have aa:=jE ar au
   have aP:i*sz=l.length*sz+(i-l.length)*sz:=by rw[←Nat.add_mul];congr 1;omega
   have a7:(cs++qW++rest).toArray.getD (i*sz+j) Go.undef=qW.toArray.getD ((i-l.length)*sz+j) Go.undef:=by
    simp only[Array.getD_eq_getD_getElem?,List.getElem?_toArray,List.append_assoc]
    rw[List.getElem?_append_right (by omega),List.getElem?_append_left (by omega)]
    congr 2
    omega
   rw[aR,a7]
   exact k.2.2 _ j ar au
def bh.tail (G:bh) (g lo hi:Nat) (news:List Value):bh:={G with S:=fun k j=>if k=g∧lo≤j∧j<hi then news[j-lo]? else G.S k j}
theorem F1 (h:Rel G s a w) {t tx e:TypeId} {sz:Nat} {l m:List V} {X Y:Value} {news:List Value} {kY:TypeDesc} (fl:gY P t=true) (jD:sz=c3 P t) (he:P.underlying t=some (.slice e)) (U:P.underlying tx=some kY) (ay:∀k,kY≠.int k)
 (bO:bZ G w bd.rs (.slc true sz l) X) (hlen:(Builtin.lenOf Y).run P w=.ok m.length w) (aJ:(Builtin.firstCells sz m.length Y).run P w=.ok news.toArray w) (B6:(Builtin.firstCells sz m.length Y).run P w.drew=.ok news.toArray w.drew)
 (cK:Laid G sz m news.toArray) (aC:news.length=m.length*sz) (J:∀u∈news,u.oneCell'=true) (ad:(l.length+m.length)*P.bytesOf e≤140737488355328):
 ∃x w' G',(Builtin.append_ #[t,tx] ty #[X,Y]).run P w=.ok x w'∧Rel G' s a w'∧bZ G' w' bd.rs (.slc true sz (l++m)) x∧Fr s.lv G w G' w':=by
 have sg:elemOf P t=e:=by simp[elemOf,he]
 unfold gY at fl
 simp only[Bool.and_eq_true,bne_iff_ne,ne_eq]at fl
 obtain⟨⟨⟨_,wF⟩,B7⟩,mz⟩:=fl
 have sh:sz=az P e:=by rw[jD];simp[c3,sg]
 have B8:az P e≠0:=by rw[←sh,jD];exact wF
 obtain⟨i,d,g1,g2,g3,g4⟩:=lS B8
 rw[sg]at B7 mz
 have wN:P.bytesOf e=i.bytes:=by simp[Program.bytesOf,g1]
 cases pW:zero P e with
 | none=>rw[pW]at mz;cases mz
 | some z=>
   rw[pW]at mz
   have n1:z.length=az P e:=by have:z.length=c3 P t:=by simpa using mz
                               rw[this,←jD,sh]
   obtain⟨cY,aq,aF,aW,_⟩:=se pW
   have nY:i.zero=some cY:=by
    have:=aq default
    simp only[zeroValue,Sem.run_bind,typeInfo,run_program,Result.andThen_ok,g1,Sem.run_pure]at this
    cases bj:i.zero with
    | none=>simp[bj]at this
    | some y=>simp[bj]at this;rw[this]
   have arZ:0<sz:=by omega
   have Ni:=bO
   have pX:i.size=sz:=by omega
   obtain⟨B9,A,cap,rfl,mw⟩:aH G.S G.β (.slc false sz l) X∧∃a cap,X=.slice a l.length cap∧(cap=l.length∨∃g cs ty,a=some ⟨g,0,none⟩∧G.aV g=some (.rs 0 0)∧w.heap[g]?=some (.cells cs ty (0,0))∧cs.size=cap*sz∧∀j,l.length*sz≤j→G.S g j=none):=bO
   obtain⟨olds,hL,mA,n2,ar1,lZ,F2⟩:=B5 (P:=P) h arZ B9
   have fm:l.length≤cap:=by
    rcases B9.sa with⟨rfl,_⟩ | ⟨b,o,uk,c,bj,ah,_⟩
    ·exact Nat.zero_le _
    ·cases bj;exact ah
   by_cases qV:l.length+m.length≤cap
   ·have aI:=FX (P:=P) (w:=w) (t:=t) (tx:=tx) (tyy:=ty) (A:=A) (n:=l.length) (cap:=cap) (Y:=Y) he g1 U ay hlen (by rw[pX];exact aJ) qV
    rcases mw with mw | ⟨g,cs,ez,rfl,bA,av,en,a8⟩
    ·
     have si:m=[]:=List.eq_nil_of_length_eq_zero (by omega)
     subst si
     have uy:news=[]:=List.eq_nil_of_length_eq_zero (by simpa using aC)
     subst uy
     refine⟨.slice A l.length cap,w,G,?_,h,?_,Fr.refl _ _ _⟩
     ·rw[aI]
      cases A<;>simp[storeCells]
     ·rw[List.append_nil];exact Ni
    ·have n0:l.length*sz+news.length≤cs.size:=by rw[aC,en,←Nat.add_mul];exact Nat.mul_le_mul_right _ qV
     have cQ:=run_storeCells_at P g (l.length*sz) ez news 0 cs w av (by simpa using n0) J
     simp only[Nat.add_zero]at cQ
     have eU:(w.setRow g (cs.toList.take (l.length*sz)++news++cs.toList.drop (l.length*sz+news.length)).toArray).heap[g]?=some (.cells (cs.toList.take (l.length*sz)++news++cs.toList.drop (l.length*sz+news.length)).toArray ez (0,0)):=setRow_heap w g cs _ ez _ av
     generalize cR:w.setRow g (cs.toList.take (l.length*sz)++news++cs.toList.drop (l.length*sz+news.length)).toArray=w' at cQ eU
     have ej:∀k,k≠g→w'.heap[k]?=w.heap[k]?:=fun k ay=>by rw[←cR];exact setRow_other w g k _ ay
     have Ca:∀k,k≠g→∀j,(G.tail g (l.length*sz) ((l.length+m.length)*sz) news).S k j=G.S k j:=fun k ay j=>by
      show(if k=g∧_ then _ else _)=_
      rw[if_neg (fun e=>ay e.1)]
     have hle:ch G (G.tail g (l.length*sz) ((l.length+m.length)*sz) news):=⟨fun k j c ah=>by
      show(if k=g∧_ then _ else _)=_
      rw[if_neg (by rintro⟨rfl,aa,_⟩;rw[a8 j aa]at ah;cases ah)];exact ah,fun _ _ _ e=>e⟩
     have hM:w'.heap.size=w.heap.size:=by rw[←cR];simp
     have Nj:∀j,l.length*sz≤j→j<(l.length+m.length)*sz→(G.tail g (l.length*sz) ((l.length+m.length)*sz) news).S g j=news[j-l.length*sz]?:=fun j aa ar=>by
      show(if g=g∧_ then _ else _)=_
      rw[if_pos ⟨rfl,aa,ar⟩]
     have pY:∀j,w'.cell? ⟨g,j,none⟩=(cs.toList.take (l.length*sz)++news++cs.toList.drop (l.length*sz+news.length))[j]?:=fun j=>by simp only[World.cell?,eU];simp
     have F3:l.length*sz≤cs.size:=by omega
     refine⟨.slice (some ⟨g,0,none⟩) (l.length+m.length) cap,w',G.tail g (l.length*sz) ((l.length+m.length)*sz) news,?_,h.grow hle rfl (fun k p arM fs=>?_) (fun k j c ah=>?_) (fun k p arM=>by rw[hM];exact h.aX k p arM),?_,⟨by rw[←cR];rfl,by rw[←cR];rfl,by rw[←cR];rfl,by rw[hM];exact Nat.le_refl _,fun k ay hm=>?_,hle.S,fun _ _ _=>rfl⟩⟩
     ·rw[aI]
      show((storeCells ((⟨g,0,none⟩:Addr).add (l.length*i.size)) news).run P w).andThen _=_
      rw[pX,add_eq,Nat.zero_add,cQ]
      rfl
     ·have gw:k≠g:=by rintro rfl;rw[bA]at fs;cases fs;exact arM 0 0 rfl
      exact⟨ej k gw,Ca k gw,fs⟩
     ·by_cases gw:k=g
      ·subst gw
       have ey:(if k=k∧l.length*sz≤j∧j<(l.length+m.length)*sz then news[j-l.length*sz]? else G.S k j)=some c:=ah
       rw[pY]
       split at ey
       ·rename_i bj
        rw[List.append_assoc,List.getElem?_append_right (by simp;omega)]
        simp only[List.length_take,Array.length_toList,Nat.min_eq_left F3]
        rw[List.getElem?_append_left (by have aa:=bj.2.2;rw[Nat.add_mul]at aa;have ar:=bj.2.1;omega)]
        exact ey
       ·have au:j<l.length*sz:=by
         rcases Nat.lt_or_ge j (l.length*sz)with aZ | aZ
         ·exact aZ
         ·rw[a8 j aZ]at ey;cases ey
        have:=h.cZ _ _ _ ey
        simp only[World.cell?,av]at this
        rw[List.append_assoc,List.getElem?_append_left (by simp;omega),List.getElem?_take,if_pos au]
        simpa using this
      ·rw[Ca k gw]at ah
       have:=h.cZ _ _ _ ah
       simp only[World.cell?,ej k gw]
       exact this
     ·have qX:=Laid.append (rest:=cs.toList.drop (l.length*sz+news.length)) (ar1.mono hle) (cK.mono hle) lZ aC
      have arQ:(l++m).length=l.length+m.length:=by simp
      refine⟨?_,some ⟨g,0,none⟩,cap,by rw[arQ],.inr ⟨g,_,ez,rfl,bA,eU,?_,fun j au=>?_⟩⟩
      ·suffices F4:aH (G.tail g (l.length*sz) ((l.length+m.length)*sz) news).S (G.tail g (l.length*sz) ((l.length+m.length)*sz) news).β (.slc false sz (l++m)) (.slice (some ⟨g,0,none⟩) (l++m).length cap) by rw[arQ]at F4;exact F4
       refine aH.slc sz (l++m) g 0 cap (fun i j=>(olds++news++cs.toList.drop (l.length*sz+news.length)).toArray.getD (i*sz+j) Go.undef) (by omega) qX.2.1 (fun p q arM aE=>?_) qX.2.2
       have bf:=jE arM aE
       rw[Nat.zero_add]
       by_cases mv:p*sz+q<l.length*sz
       ·
        have ar2:p<l.length:=by
         rcases Nat.lt_or_ge p l.length with aZ | aZ
         ·exact aZ
         ·have:=Nat.mul_le_mul_right sz aZ;omega
        rcases B9.sa with⟨rfl,_⟩ | ⟨b,o,uk,c,bj,ah,al,j1,aqQ⟩
        ·simp at ar2
        ·cases bj
         have aR:=hle.S _ _ _ (j1 p q ar2 aE)
         rw[Nat.zero_add]at aR
         rw[aR]
         have a7:=zb h j1 P
         have cj:(loadCells ⟨g,0,none⟩ (l.length*sz)).run P w=.ok olds.toArray w:=mA
         rw[cj]at a7
         have da:olds=(List.range (l.length*sz)).map fun k=>c (k / sz) (k%sz):=by
          have:=(Result.ok.inj a7).1
          simpa using this
         have d1:(p*sz+q) / sz=p:=by rw[Nat.mul_comm,Nat.mul_add_div arZ,Nat.div_eq_of_lt aE,Nat.add_zero]
         have d2:(p*sz+q)%sz=q:=by rw[Nat.mul_comm,Nat.mul_add_mod,Nat.mod_eq_of_lt aE]
         simp only[Array.getD_eq_getD_getElem?,List.getElem?_toArray,List.append_assoc]
         rw[List.getElem?_append_left (by omega),da,List.getElem?_map,List.getElem?_range mv]
         simp[d1,d2]
       ·rw[Nj _ (by omega) (by rw[←arQ];exact bf)]
        simp only[Array.getD_eq_getD_getElem?,List.getElem?_toArray,List.append_assoc]
        have b4:p*sz+q-l.length*sz<news.length:=by rw[aC];rw[arQ,Nat.add_mul]at bf;omega
        rw[List.getElem?_append_right (by omega),List.getElem?_append_left (by omega),lZ]
        rw[List.getElem?_eq_getElem b4,Option.getD_some]
      ·simp only[List.size_toArray,List.length_append,List.length_take,List.length_drop,Array.length_toList]
       omega
      ·show(if g=g∧_ then _ else _)=_
       rw[if_neg (fun e=>by have:=e.2.2;rw[arQ]at au;omega)]
       exact a8 j (by rw[arQ,Nat.add_mul]at au;omega)
     ·have gw:k≠g:=by rintro rfl;exact hm _ bA trivial
      exact⟨ej k gw,rfl,Ca k gw⟩
   ·have aI:=FY (P:=P) (w:=w) (t:=t) (tx:=tx) (tyy:=ty) (A:=A) (n:=l.length) (cap:=cap) (Y:=Y) (news:=news) (olds:=olds) he g1 nY U ay hlen (by rw[pX];exact B6) (by rw[pX];exact n2) (by omega) (by omega) (by rw[←wN];exact ad)
    have qY:=grownCap_ge w (l.length+m.length) cap e
    have Cb:(Builtin.zeroCells cY.cells (grownCap w (l.length+m.length) cap e-(l.length+m.length))).size=(grownCap w (l.length+m.length) cap e-(l.length+m.length))*sz:=by
     rw[size_zeroCells,←aF,n1,sh]
    have qX:=Laid.append (rest:=(Builtin.zeroCells cY.cells (grownCap w (l.length+m.length) cap e-(l.length+m.length))).toList) ar1 cK lZ aC
    have sj:olds.toArray++news.toArray++Builtin.zeroCells cY.cells (grownCap w (l.length+m.length) cap e-(l.length+m.length))=(olds++news++(Builtin.zeroCells cY.cells (grownCap w (l.length+m.length) cap e-(l.length+m.length))).toList).toArray:=by
     apply Array.ext'
     simp
    rw[sj]at aI
    have arQ:(l++m).length=l.length+m.length:=by simp
    obtain⟨bN,bt,bq,cN⟩:=h.drew.newRow (cap:=grownCap w (l.length+m.length) cap e) qX (by
     have Cc:(Builtin.zeroCells cY.cells (grownCap w (l.length+m.length) cap e-(l.length+m.length))).toList.length=(grownCap w (l.length+m.length) cap e-(l.length+m.length))*sz:=by rw[Array.length_toList];exact Cb
     rw[List.size_toArray,List.length_append,List.length_append,Cc,lZ,aC,←Nat.add_mul,←Nat.add_mul]
     congr 1
     omega) (by rw[arQ];exact qY) e
    refine⟨_,_,bN,aI,bt,?_,cN.drew⟩
    rw[arQ]at bq
    exact bq
theorem Nk {x y:Operand} {t bY:TypeId} {v:V} (h:Rel G s a w) (arL:pN P t bY (s.all P t x) (s.aM P bY y)=some v):
 b5 P ⟨d,.call {callee:=.builtin .append,args:=#[x,y],argTypes:=#[t,bY]},ty,pos,af,gd⟩ G s a w v (s.drop x):=by
 obtain⟨bl,J,aa,ar,_,bf,b4⟩:=h.all P t x
 have aA:=h.aM P bY y
 have bn:∀own sz l,s.aM P bY y=.slc own sz l→own=false:=fun own sz l e=>uf e
 rw[←bf,←b4]at aA
 generalize s.aM P bY y=yv at arL aA bn
 have cG:(s.drop x).lv=s.lv:=by cases x<;>rfl
 have fin:∀{dz:Value} {w':World} {G':bh},(Builtin.append_ #[t,bY] ty #[a.eval x,a.eval y]).run P w=.ok dz w'→Rel G' (s.drop x) a w'→bZ G' w' bd.rs v dz→Fr (s.drop x).lv bl w G' w'→b5 P ⟨d,.call {callee:=.builtin .append,args:=#[x,y],argTypes:=#[t,bY]},ty,pos,af,gd⟩ G s a w v (s.drop x):=by
  intro dz w' G' aR a7 cj da
  refine⟨dz,w',G',nT ?_,a7,cj,ar.trans (by rw[cG]at da;exact da)⟩
  simp only[builtin,List.map_toArray,List.map_cons,List.map_nil,Sem.run_bind,aR,Result.andThen_ok,Sem.run_pure]
 unfold pN at arL
 split at arL
 ·rename_i sz l U
  split at arL
  ·rename_i fl
   obtain⟨fl,jD⟩:=fl
   obtain⟨e,he,jF⟩:=jC (by simp only[gY,Bool.and_eq_true]at fl;exact fl.1.1.1)
   rw[U]at aa
   split at arL
   ·rename_i own b8 m
    obtain rfl:=bn _ _ _ rfl
    split at arL
    ·rename_i ah
     obtain⟨j7,rfl⟩:=ah
     split at arL
     ·rename_i ad
      obtain rfl:=Option.some.inj arL
      obtain⟨cc,pZ,_⟩:=jC j7
      have arZ:0<b8:=by
       simp only[gY,Bool.and_eq_true,bne_iff_ne]at fl
       have:=fl.1.1.2
       omega
      obtain⟨cs,c4,cu,cS,n3,hc,j8⟩:=B5 (P:=P) J arZ aA
      obtain⟨dz,w',G',aR,a7,cj,da⟩:=F1 (ty:=ty) J fl jD he pZ (fun k e=>by cases e) aa c4 cu cS n3 hc j8 (by rw[jF]at ad;exact ad)
      exact fin aR a7 cj da
     ·cases arL
    ·cases arL
   ·rename_i b
    split at arL
    ·rename_i ah
     obtain⟨cQ,rfl⟩:=ah
     split at arL
     ·rename_i ad
      obtain rfl:=Option.some.inj arL
      have pZ:=wE cQ
      obtain⟨cs,c4,cu,cS,n3,hc,Cd,j8⟩:=F0 (P:=P) (G:=bl) (w:=w) (sz:=1) b
      rw[aA.ky]at fin
      rw[←Cd]at c4 cu cS ad
      obtain⟨dz,w',G',aR,a7,cj,da⟩:=F1 (ty:=ty) J fl jD he pZ (fun k e=>by cases e) aa c4 cu cS n3 hc j8 (by rw[jF]at ad;exact ad)
      exact fin aR a7 cj da
     ·cases arL
    ·cases arL
   ·cases arL
  ·cases arL
 ·cases arL
end Go.aB
