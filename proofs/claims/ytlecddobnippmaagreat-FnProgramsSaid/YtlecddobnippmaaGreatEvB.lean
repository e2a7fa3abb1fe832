/- How the pure reading stands to the machine's world. Handing over, putting down, growing. The operations that only compute: each as the machine has it. The operations that only compute, further: comparisons, lengths, parts, places. -/
import Derived.Below
import Derived.Laws.Sem
import Derived.Laws.Cells
import Derived.Laws.Entries
import Derived.ChangeKeysEq
import Derived.Laws.StructEq
import Derived.Test.YtlecddobnippmaaGreatEvA
set_option linter.unusedVariables false
set_option linter.unusedSimpArgs false
namespace Go.aB
open Go
inductive bd where
 | h4 (l t c j:Nat)
 | ob (l t:Nat)
 | ba (l t j:Nat)
 | rs (c j:Nat)
 deriving DecidableEq
structure bh where
 S:Nat→Nat→Option Value
 β:Nat→Nat→Option Nat
 aV:Nat→Option bd
inductive aH (S:Nat→Nat→Option Value) (β:Nat→Nat→Option Nat):V→Value→Prop
 | undef (x:Value):aH S β .undef x
 | bool (b:Bool):aH S β (.bool b) (.bool b)
 | int (k:IntKind) (n:Int):aH S β (.int k n) (.int k n)
 | str (s:ByteArray):aH S β (.str s) (.string s)
 | h5 (sz:Nat) (a:Option Addr) (cap:Nat):aH S β (.slc false sz []) (.slice a 0 cap)
 | slc (sz:Nat) (l:List V) (b o cap:Nat) (c:Nat→Nat→Value) (ah:l.length≤cap) (al:∀x∈l,x.flat.length=sz∧x.flat.all bM=true)
  (a8:∀i j,i<l.length→j<sz→S b (o+i*sz+j)=some (c i j))
  (a6:∀i j,i<l.length→j<sz→aH S β ((l.getD i .undef).flat.getD j .undef) (c i j)):aH S β (.slc false sz l) (.slice (some ⟨b,o,none⟩) l.length cap)
 | agg (l:List V) (cs:Array Value) (ai:l.length=cs.size) (a6:∀i,i<l.length→aH S β (l.getD i .undef) (cs.getD i undef)):aH S β (.agg l) (.agg cs)
 | ptr (lv t off g:Nat) (h:β lv t=some g):aH S β (.ptr lv t off) (.pointer (some ⟨g,off,none⟩))
 | imp (l:List V) (b o:Nat) (c:Nat→Value) (arM:l.all bM=true) (a8:∀j,j<l.length→S b (o+j)=some (c j)) (a6:∀j,j<l.length→aH S β (l.getD j .undef) (c j)):aH S β (.imp l) (.pointer (some ⟨b,o,none⟩))
 | gA (lv t i g sz:Nat) (h:β lv t=some g):aH S β (.gA lv t i sz) (.pointer (some ⟨g,i*sz,none⟩))
 | bS (lv t n g cap:Nat) (h:β lv t=some g) (ah:n≤cap):aH S β (.bS lv t n) (.slice (some ⟨g,0,none⟩) n cap)
 | hn (lv t n g:Nat) (h:β lv t=some g):aH S β (.hn lv t n) (.slice (some ⟨g,0,none⟩) n n)
 | ho (lv t n g cap:Nat) (h:β lv t=some g) (ah:n≤cap):aH S β (.ho lv t n) (.slice (some ⟨g,0,none⟩) n cap)
 | mp (lv t g:Nat) (h:β lv t=some g):aH S β (.mp lv t) (.map (some g))
 | fn (f:Nat) (bg:List V) (cs:Array Value) (ai:bg.length=cs.size) (a6:∀i,i<bg.length→aH S β (bg.getD i .undef) (cs.getD i undef)):aH S β (.fn f bg) (.func (.func f) #[] cs)
 | dD:aH S β .dD (.pointer none)
 | bK:aH S β .bK .nilFunc
theorem aH.mono {S S' β β'} (a8:∀g j c,S g j=some c→S' g j=some c) (dk:∀l t g,β l t=some g→β' l t=some g) {v:V} {x:Value} (h:aH S β v x):aH S' β' v x:=by
 induction h with
 | undef x=>exact .undef x
 | bool b=>exact .bool b
 | int k n=>exact .int k n
 | str s=>exact .str s
 | h5 sz a cap=>exact .h5 sz a cap
 | slc sz l b o cap c ah al j1 a6 ag=>exact .slc sz l b o cap c ah al (fun i j hi au=>a8 _ _ _ (j1 i j hi au)) ag
 | agg l cs ai a6 ag=>exact .agg l cs ai ag
 | ptr lv t off g h=>exact .ptr lv t off g (dk _ _ _ h)
 | imp l b o c arM j1 a6 ag=>exact .imp l b o c arM (fun j au=>a8 _ _ _ (j1 j au)) ag
 | gA lv t i g sz h=>exact .gA lv t i g sz (dk _ _ _ h)
 | bS lv t n g cap h ah=>exact .bS lv t n g cap (dk _ _ _ h) ah
 | hn lv t n g h=>exact .hn lv t n g (dk _ _ _ h)
 | ho lv t n g cap h ah=>exact .ho lv t n g cap (dk _ _ _ h) ah
 | mp lv t g h=>exact .mp lv t g (dk _ _ _ h)
 | fn f bg cs ai a6 ag=>exact .fn f bg cs ai ag
 | dD=>exact .dD
 | bK=>exact .bK
inductive cX (S:Nat→Nat→Option Value) (β:Nat→Nat→Option Nat) (w:World):List Nat→List V→List Value→Prop
 | nil:cX S β w [] [] []
 | leaf {bs:List Nat} {v:V} {x:Value} {l:List V} {xs:List Value} (arM:bM v=true) (h:aH S β v x) (k:cX S β w bs l xs):cX S β w bs (v::l) (x::xs)
 | emp {bs:List Nat} {sz:Nat} {a:Option Addr} {l:List V} {xs:List Value} (k:cX S β w bs l xs):cX S β w bs (.uq sz []::l) (.slice a 0 0::xs)
 | eZ {bs jj:List Nat} {sz:Nat} {m:List V} {g:Nat} {cs:Array Value} {ty:TypeId} {cap:Nat} {l:List V} {xs:List Value} (av:w.heap[g]?=some (.cells cs ty (0,0))) (ah:cs.size=cap*sz) (hm:m.length≤cap)
  (al:∀x∈m,x.flat.length=sz) (a8:∀j,S g j=none)
  (ay:cX S β w bs (m.map V.flat).flatten (cs.toList.take (m.length*sz))) (k:cX S β w jj l xs):cX S β w (g::(bs++jj)) (.uq sz m::l) (.slice (some ⟨g,0,none⟩) m.length cap::xs)
theorem cX.mono {S S' β β'} {w w':World} {bs:List Nat} {l:List V} {xs:List Value} (h:cX S β w bs l xs) (a6:∀v x,bM v=true→aH S β v x→aH S' β' v x)
 (ad:∀b∈bs,w'.heap[b]?=w.heap[b]?∧∀j,S' b j=S b j):cX S' β' w' bs l xs:=by
 induction h with
 | nil=>exact .nil
 | leaf arM h k ag=>exact .leaf arM (a6 _ _ arM h) (ag ad)
 | emp k ag=>exact .emp (ag ad)
 | eZ av ah hm al a8 ay k m5 iN=>
   obtain⟨bU,cv⟩:=ad _ (List.mem_cons_self ..)
   exact .eZ (bU.trans av) ah hm al (fun j=>(cv j).trans (a8 j)) (m5 fun b h=>ad b (List.mem_cons_of_mem _ (List.mem_append_left _ h))) (iN fun b h=>ad b (List.mem_cons_of_mem _ (List.mem_append_right _ h)))
theorem cX.len {S β} {w:World} {bs:List Nat} {l:List V} {xs:List Value} (h:cX S β w bs l xs):l.length=xs.length:=by
 induction h with
 | nil=>rfl
 | leaf arM h k ag=>simp[ag]
 | emp k ag=>simp[ag]
 | eZ av ah hm al a8 ay k m5 iN=>simp[iN]
theorem cX.app {S β} {w:World} {bs jj:List Nat} {l bc:List V} {xs FL:List Value} (h:cX S β w bs l xs) (aZ:cX S β w jj bc FL):cX S β w (bs++jj) (l++bc) (xs++FL):=by
 induction h with
 | nil=>exact aZ
 | leaf arM h k ag=>exact .leaf arM h ag
 | emp k ag=>exact .emp ag
 | eZ av ah hm al a8 ay k m5 iN=>
   have:=cX.eZ av ah hm al a8 ay iN
   rw[List.cons_append,List.append_assoc]
   exact this
theorem cX.pure {S β} {w:World} {bs:List Nat} {l:List V} {xs:List Value} (h:cX S β w bs l xs) (arM:∀v∈l,bM v=true):bs=[]∧∀k,k<l.length→aH S β (l.getD k .undef) (xs.getD k undef):=by
 induction h with
 | nil=>exact⟨rfl,fun k ay=>absurd ay (Nat.not_lt_zero _)⟩
 | leaf _ h k ag=>
   obtain⟨e,i2⟩:=ag fun v arL=>arM v (List.mem_cons_of_mem _ arL)
   refine⟨e,fun j au=>?_⟩
   cases j with
   | zero=>exact h
   | succ j=>exact i2 j (by simpa using au)
 | emp k ag=>exact absurd (arM _ (List.mem_cons_self ..)) (by simp[bM])
 | eZ av ah hm al a8 ay k m5 iN=>exact absurd (arM _ (List.mem_cons_self ..)) (by simp[bM])
theorem cX.Mi {S β} {w:World}:∀{l:List V} {xs:List Value},l.length=xs.length→(∀v∈l,bM v=true)→(∀k,k<l.length→aH S β (l.getD k .undef) (xs.getD k undef))→cX S β w [] l xs:=by
 intro l
 induction l with
 | nil=>intro xs ai _ _;obtain rfl:=List.eq_nil_of_length_eq_zero ai.symm;exact .nil
 | cons v l ag=>
   intro xs ai arM a6
   cases xs with
   | nil=>cases ai
   | cons x xs=>exact .leaf (arM v (List.mem_cons_self ..)) (a6 0 (by simp)) (ag (by simpa using ai) (fun u hu=>arM u (List.mem_cons_of_mem _ hu)) fun k ay=>a6 (k+1) (by simpa using ay))
theorem wC {m:List V} {sz:Nat}:∀(al:∀x∈m,x.flat.length=sz) (i j:Nat),i<m.length→j<sz→(m.map V.flat).flatten.getD (i*sz+j) .undef=(m.getD i .undef).flat.getD j .undef:=by
 induction m with
 | nil=>intro _ i j hi;exact absurd hi (Nat.not_lt_zero _)
 | cons a m ag=>
   intro al i j hi au
   have aO:=al a (List.mem_cons_self ..)
   rw[List.map_cons,List.flatten_cons]
   cases i with
   | zero=>
     rw[Nat.zero_mul,Nat.zero_add,List.getD_eq_getElem?_getD,List.getElem?_append_left (by omega)]
     rfl
   | succ i=>
     rw[List.getD_eq_getElem?_getD,List.getElem?_append_right (by rw[aO,Nat.add_mul];omega),aO,show(i+1)*sz+j-sz=i*sz+j by rw[Nat.add_mul];omega,←List.getD_eq_getElem?_getD]
     exact ag (fun x U=>al x (List.mem_cons_of_mem _ U)) i j (by simpa using hi) au
theorem o1 {m:List V} {sz:Nat} (al:∀x∈m,x.flat.length=sz):(m.map V.flat).flatten.length=m.length*sz:=by
 induction m with
 | nil=>simp
 | cons a m ag=>
   rw[List.map_cons,List.flatten_cons,List.length_append,al a (List.mem_cons_self ..),ag fun x U=>al x (List.mem_cons_of_mem _ U),List.length_cons,Nat.add_mul]
   omega
theorem Mj {n sz k:Nat} (h:k<n*sz):∃i j,i<n∧j<sz∧k=i*sz+j:=by
 have aD:0<sz:=by rcases Nat.eq_zero_or_pos sz with e | e;· subst e;simp at h
                  ·exact e
 exact⟨k / sz,k%sz,(Nat.div_lt_iff_lt_mul aD).2 h,Nat.mod_lt _ aD,by rw[Nat.mul_comm,Nat.div_add_mod]⟩
def dm (G:bh) (w:World) (p:bd) (sz:Nat) (l:List V) (x:Value):Prop:=
 ∃bs:List Nat,bs.Nodup∧(∀b∈bs,G.aV b=some p)∧cX G.S G.β w bs [.uq sz l] [x]
theorem dm.inv {G:bh} {w:World} {p:bd} {sz:Nat} {l:List V} {x:Value} (h:dm G w p sz l x):
 ∃a cap,x=.slice a l.length cap∧((l=[]∧cap=0)∨∃g cs ty bs,a=some ⟨g,0,none⟩∧(g::bs).Nodup∧(∀b∈g::bs,G.aV b=some p)∧w.heap[g]?=some (.cells cs ty (0,0))∧cs.size=cap*sz∧l.length≤cap∧
  (∀x∈l,x.flat.length=sz)∧(∀j,G.S g j=none)∧cX G.S G.β w bs (l.map V.flat).flatten (cs.toList.take (l.length*sz))):=by
 obtain⟨bs,aC,hw,aw⟩:=h
 cases aw with
 | leaf arM=>cases arM
 | emp k=>exact⟨_,0,rfl,.inl ⟨rfl,rfl⟩⟩
 | eZ av ah hm al a8 ay k=>
   cases k
   rw[List.append_nil]at aC hw
   exact⟨_,_,rfl,.inr ⟨_,_,_,_,rfl,aC,hw,av,ah,hm,al,a8,ay⟩⟩
theorem dm.mk {G:bh} {w:World} {p:bd} {sz:Nat} {l:List V} {g cap:Nat} {cs:Array Value} {ty:TypeId} {bs:List Nat} (aC:(g::bs).Nodup) (hw:∀b∈g::bs,G.aV b=some p) (av:w.heap[g]?=some (.cells cs ty (0,0)))
 (ah:cs.size=cap*sz) (hm:l.length≤cap) (al:∀x∈l,x.flat.length=sz) (a8:∀j,G.S g j=none) (ay:cX G.S G.β w bs (l.map V.flat).flatten (cs.toList.take (l.length*sz))):dm G w p sz l (.slice (some ⟨g,0,none⟩) l.length cap):=by
 refine⟨g::(bs++[]),?_,?_,.eZ av ah hm al a8 ay .nil⟩
 ·rw[List.append_nil];exact aC
 ·rw[List.append_nil];exact hw
theorem dm.BG {G:bh} {w:World} {p:bd} {sz:Nat} (a:Option Addr):dm G w p sz [] (.slice a 0 0):=⟨[],List.nodup_nil,(fun b ad=>by cases ad),.emp .nil⟩
def BH (G:bh) (w:World) (p:bd) (l:List V) (x:Value):Prop:=
 ∃g cs ty,x=.pointer (some ⟨g,0,none⟩)∧G.aV g=some p∧w.heap[g]?=some (.cells cs ty (0,0))∧l.length≤cs.size∧(∀j,G.S g j=none)∧(∀v∈l,bM v=true)∧∀j,j<l.length→aH G.S G.β (l.getD j .undef) (cs.getD j undef)
def br (G:bh) (w:World) (p:bd):V→Value→Prop
 | .slc true sz l,x=>aH G.S G.β (.slc false sz l) x∧∃a cap,x=.slice a l.length cap∧(cap=l.length∨
  ∃g cs ty,a=some ⟨g,0,none⟩∧G.aV g=some p∧w.heap[g]?=some (.cells cs ty (0,0))∧cs.size=cap*sz∧∀j,l.length*sz≤j→G.S g j=none)
 | .uq sz l,x=>dm G w p sz l x
 | .nw l,x=>BH G w p l x
 | v,x=>aH G.S G.β v x
def c7 (G:bh) (w:World) (p:Nat→bd):V→Value→Prop
 | .agg l,x=>∃cs,x=.agg cs∧l.length=cs.size∧∀j,j<l.length→br G w (p j) (l.getD j .undef) (cs.getD j undef)
 | v,x=>br G w (p 0) v x
def bZ (G:bh) (w:World) (p:Nat→Nat→bd):V→Value→Prop
 | .tup l,x=>∃vs,x=.tuple vs∧l.length=vs.size∧∀i,i<l.length→c7 G w (p i) (l.getD i .undef) (vs.getD i undef)
 | v,x=>c7 G w (p 0) v x
def jA (G:bh) (w:World) (lv t g:Nat):ax→Prop
 | .box cells=>∃cs ty,w.heap[g]?=some (.cells cs ty (0,0))∧cells.length≤cs.size∧(∀j,G.S g j=none)∧∀j,j<cells.length→br G w (.ba lv t j) (cells.getD j .undef) (cs.getD j undef)
 | .arr iv sz l=>∃cs ty,w.heap[g]?=some (.cells cs ty (0,0))∧l.length*sz≤cs.size∧(∀x∈l,x.flat.length=sz∧x.flat.all bM=true)∧
  (∀i j,i<l.length→j<sz→aH G.S G.β ((l.getD i .undef).flat.getD j .undef) (cs.getD (i*sz+j) undef))∧
  (if iv then ∀j,j<l.length*sz→G.S g j=some (cs.getD j undef)else ∀j,G.S g j=none)
 | .map es=>∃bo kx,w.heap[g]?=some (.map bo kx)∧es.length=bo.size∧(∀j,G.S g j=none)∧(∀x∈es,x.1.flat.all bM=true∧x.2.flat.all bM=true)∧∀i,i<es.length→aH G.S G.β (es.getD i default).1 (bo.getD i default).key∧aH G.S G.β (es.getD i default).2 (bo.getD i default).val
 | .lJ sz l=>∃cs ty bs,w.heap[g]?=some (.cells cs ty (0,0))∧cs.size=l.length*sz∧(∀x∈l,x.flat.length=sz)∧(∀j,G.S g j=none)∧bs.Nodup∧(∀b∈bs,G.aV b=some (.ba lv t 0))∧cX G.S G.β w bs (l.map V.flat).flatten cs.toList
 | .dir sz l=>∃cs ty,w.heap[g]?=some (.cells cs ty (0,0))∧l.length*sz≤cs.size∧(∀x∈l,x.flat.length=sz∧x.flat.all jt=true)∧
  (∀i j,i<l.length→j<sz→aH G.S G.β ((l.getD i .undef).flat.getD j .undef) (cs.getD (i*sz+j) undef))∧∀j,G.S g j=none
structure Rel (G:bh) (s:ab) (a:Act) (w:World):Prop where
 size:a.tmps.size=s.n
 defers:a.defers=[]
 slot:∀t,bZ G w (.h4 s.lv t) (s.t t) (a.tmps.getD t undef)
 obj:∀lv t ob,s.ob lv t=some ob→∃g,G.β lv t=some g∧G.aV g=some (.ob lv t)∧jA G w lv t g ob
 fC:∀lv t g,G.β lv t=some g→∃ob,s.ob lv t=some ob
 cZ:∀g j c,G.S g j=some c→w.cell? ⟨g,j,none⟩=some c
 aX:∀g p,G.aV g=some p→g<w.heap.size
def y7 (lv:Nat):bd→Prop
 | .h4 l _ _ _=>lv≤l
 | _=>True
structure Fr (lv:Nat) (G:bh) (w:World) (G':bh) (w':World):Prop where
 os:w'.os=w.os
 tape:w'.tape=w.tape
 output:w'.output=w.output
 size:w.heap.size≤w'.heap.size
 mq:∀g,g<w.heap.size→(∀p,G.aV g=some p→¬y7 lv p)→w'.heap[g]?=w.heap[g]?∧G'.aV g=G.aV g∧∀j,G'.S g j=G.S g j
 cZ:∀g j c,G.S g j=some c→G'.S g j=some c
 outer:∀l t,l<lv→G'.β l t=G.β l t
theorem Fr.refl (lv:Nat) (G:bh) (w:World):Fr lv G w G w:=⟨rfl,rfl,rfl,Nat.le_refl _,fun _ _ _=>⟨rfl,rfl,fun _=>rfl⟩,fun _ _ _ h=>h,fun _ _ _=>rfl⟩
theorem Fr.trans {lv:Nat} {G bl bN:bh} {w e2 j2:World} (h:Fr lv G w bl e2) (k:Fr lv bl e2 bN j2):Fr lv G w bN j2:=
 ⟨k.os.trans h.os,k.tape.trans h.tape,k.output.trans h.output,Nat.le_trans h.size k.size,fun g av hm=>by
   obtain⟨aT,a2,a3⟩:=h.mq g av hm
   obtain⟨bU,cv,dn⟩:=k.mq g (Nat.lt_of_lt_of_le av h.size) (fun p arM=>hm p (a2▸arM))
   exact⟨bU.trans aT,cv.trans a2,fun j=>(dn j).trans (a3 j)⟩,fun g j c ah=>k.cZ g j c (h.cZ g j c ah),fun l t ai=>(k.outer l t ai).trans (h.outer l t ai)⟩
structure ch (G G':bh):Prop where
 S:∀g j c,G.S g j=some c→G'.S g j=some c
 β:∀l t g,G.β l t=some g→G'.β l t=some g
theorem ch.refl (G:bh):ch G G:=⟨fun _ _ _ h=>h,fun _ _ _ h=>h⟩
theorem ch.dg {G G':bh} (h:ch G G') {v:V} {x:Value} (k:aH G.S G.β v x):aH G'.S G'.β v x:=k.mono h.S h.β
structure aqM (G:bh) (w:World) (G':bh) (w':World) (g:Nat):Prop where
 heap:w'.heap[g]?=w.heap[g]?
 S:∀j,G'.S g j=G.S g j
 aV:G'.aV g=G.aV g
theorem ar9 (l:List V) (i:Nat):(l.map V.cM).getD i .undef=(l.getD i .undef).cM:=by
 simp only[List.getD_eq_getElem?_getD,List.getElem?_map]
 cases l[i]?<;>rfl
theorem br.eq {G:bh} {w:World} {p:bd} {v:V} {x:Value} (J:∀sz l,v≠.slc true sz l) (aa:∀sz l,v≠.uq sz l) (ar:∀l,v≠.nw l):br G w p v x=aH G.S G.β v x:=by
 unfold br
 split
 ·exact absurd rfl (J _ _)
 ·exact absurd rfl (aa _ _)
 ·exact absurd rfl (ar _)
 ·rfl
theorem dm.mono {G G':bh} {w w':World} {p p':bd} {sz:Nat} {l:List V} {x:Value} (h:dm G w p sz l x) (hle:ch G G') (al:∀g,G.aV g=some p→w'.heap[g]?=w.heap[g]?∧(∀j,G'.S g j=G.S g j)∧G'.aV g=some p'):dm G' w' p' sz l x:=by
 obtain⟨bs,J,aa,ar⟩:=h
 exact⟨bs,J,fun b ad=>(al b (aa b ad)).2.2,ar.mono (fun v x _=>hle.dg) fun b ad=>⟨(al b (aa b ad)).1,(al b (aa b ad)).2.1⟩⟩
theorem br.view {G:bh} {w:World} {p:bd} {v:V} {x:Value} (h:br G w p v x):aH G.S G.β v.cM x:=by
 unfold br at h
 split at h
 ·exact h.1
 ·exact .undef _
 ·exact .undef _
 ·rename_i arL hu aC
  cases v<;>try exact h
  ·rename_i own sz l
   cases own
   ·exact h
   ·exact absurd rfl (arL _ _)
  ·exact absurd rfl (hu _ _)
  ·exact absurd rfl (aC _)
theorem br.lQ {G:bh} {w:World} {p:bd} {v:V} {x:Value} (h:aH G.S G.β v x) (arL:∀sz l,v≠.slc true sz l):br G w p v x:=by
 unfold br
 split
 ·exact absurd rfl (arL _ _)
 ·cases h
 ·cases h
 ·exact h
theorem br.mono {G G':bh} {w w':World} {p p':bd} {v:V} {x:Value} (h:br G w p v x) (hle:ch G G') (al:∀g,G.aV g=some p→w'.heap[g]?=w.heap[g]?∧(∀j,G'.S g j=G.S g j)∧G'.aV g=some p'):br G' w' p' v x:=by
 unfold br at h⊢
 split at h
 ·obtain⟨J,a,cap,rfl,aa⟩:=h
  refine⟨hle.dg J,a,cap,rfl,?_⟩
  rcases aa with aa | ⟨g,cs,ty,ar,aP,bf,b4,dh⟩
  ·exact .inl aa
  ·obtain⟨aq,aF,aW⟩:=al g aP
   exact .inr ⟨g,cs,ty,ar,aW,aq.trans bf,b4,fun j au=>(aF j).trans (dh j au)⟩
 ·exact h.mono hle al
 ·obtain⟨g,cs,ty,J,aa,ar,aP,bf,b4,dh⟩:=h
  obtain⟨aq,aF,aW⟩:=al g aa
  exact⟨g,cs,ty,J,aW,aq.trans ar,aP,fun j=>(aF j).trans (bf j),b4,fun j au=>hle.dg (dh j au)⟩
 ·exact hle.dg h
theorem c7.mono {G G':bh} {w w':World} {p p':Nat→bd} {v:V} {x:Value} (h:c7 G w p v x) (hle:ch G G') (al:∀j g,G.aV g=some (p j)→w'.heap[g]?=w.heap[g]?∧(∀j,G'.S g j=G.S g j)∧G'.aV g=some (p' j)):c7 G' w' p' v x:=by
 unfold c7 at h⊢
 split at h
 ·obtain⟨cs,rfl,ai,ah⟩:=h
  exact⟨cs,rfl,ai,fun j au=>(ah j au).mono hle (al j)⟩
 ·exact br.mono h hle (al 0)
theorem bZ.mono {G G':bh} {w w':World} {p p':Nat→Nat→bd} {v:V} {x:Value} (h:bZ G w p v x) (hle:ch G G') (al:∀i j g,G.aV g=some (p i j)→w'.heap[g]?=w.heap[g]?∧(∀j,G'.S g j=G.S g j)∧G'.aV g=some (p' i j)):bZ G' w' p' v x:=by
 unfold bZ at h⊢
 split at h
 ·obtain⟨vs,rfl,ai,ah⟩:=h
  exact⟨vs,rfl,ai,fun i hi=>(ah i hi).mono hle (al i)⟩
 ·exact c7.mono h hle (al 0)
theorem c7.view {G:bh} {w:World} {p:Nat→bd} {v:V} {x:Value} (h:c7 G w p v x) (aK:∀l,v≠.tup l):aH G.S G.β v.view x:=by
 unfold c7 at h
 split at h
 ·obtain⟨cs,rfl,ai,ah⟩:=h
  refine .agg _ cs (by simpa using ai) fun i hi=>?_
  rw[ar9]
  exact(ah i (by simpa using hi)).view
 ·rename_i arL
  have:=br.view h
  cases v<;>first | exact this | exact .undef _ | exact absurd rfl (arL _) | exact absurd rfl (aK _)
theorem bZ.view {G:bh} {w:World} {p:Nat→Nat→bd} {v:V} {x:Value} (h:bZ G w p v x):aH G.S G.β v.view x:=by
 unfold bZ at h
 split at h
 ·exact .undef _
 ·rename_i arL
  exact c7.view h arL
theorem c7.j3 {G:bh} {w:World} {p:Nat→bd} {v:V} {x:Value} (h:aH G.S G.β v x) (arL:v.view=v):c7 G w p v x:=by
 cases v
 case agg l=>
  cases h with
  | agg _ cs ai a6=>
    refine⟨cs,rfl,ai,fun j au=>br.lQ (a6 j au) ?_⟩
    intro sz m e
    simp only[V.view,V.agg.injEq]at arL
    have J:=ar9 l j
    rw[arL,e]at J
    cases J
 case slc own sz l=>
  cases own
  ·exact h
  ·cases arL
 case uq=>cases h
 case nw=>cases h
 all_goals exact h
theorem bZ.j3 {G:bh} {w:World} {p:Nat→Nat→bd} {v:V} {x:Value} (h:aH G.S G.β v x) (arL:v.view=v) (aK:∀l,v≠.tup l):bZ G w p v x:=by
 unfold bZ
 split
 ·exact absurd rfl (aK _)
 ·exact c7.j3 h arL
end Go.aB
namespace Go.aB
open Go
def bh.bP (G:bh) (f:bd→bd):bh:={G with aV:=fun g=>(G.aV g).map f}
theorem bh.m6 (G:bh) (f:bd→bd):ch G (G.bP f):=⟨fun _ _ _ h=>h,fun _ _ _ h=>h⟩
theorem dw {G:bh} {f:bd→bd} {g:Nat} {p:bd} (h:G.aV g=some p):(G.bP f).aV g=some (f p):=by simp[bh.bP,h]
theorem br.bP {G:bh} {w:World} {p p':bd} {v:V} {x:Value} (h:br G w p v x) (f:bd→bd) (arM:f p=p'):br (G.bP f) w p' v x:=
 h.mono (G.m6 f) fun g av=>⟨rfl,fun _=>rfl,by rw[dw av,arM]⟩
theorem c7.bP {G:bh} {w:World} {p p':Nat→bd} {v:V} {x:Value} (h:c7 G w p v x) (f:bd→bd) (arM:∀j,f (p j)=p' j):c7 (G.bP f) w p' v x:=
 h.mono (G.m6 f) fun j g av=>⟨rfl,fun _=>rfl,by rw[dw av,arM]⟩
theorem bZ.bP {G:bh} {w:World} {p p':Nat→Nat→bd} {v:V} {x:Value} (h:bZ G w p v x) (f:bd→bd) (arM:∀i j,f (p i j)=p' i j):bZ (G.bP f) w p' v x:=
 h.mono (G.m6 f) fun i j g av=>⟨rfl,fun _=>rfl,by rw[dw av,arM]⟩
theorem jA.mono {G G':bh} {w w':World} {lv t g:Nat} {ob:ax} (h:jA G w lv t g ob) (hle:ch G G') (av:w'.heap[g]?=w.heap[g]?∧(∀j,G'.S g j=G.S g j))
 (al:∀j k,G.aV k=some (.ba lv t j)→w'.heap[k]?=w.heap[k]?∧(∀j,G'.S k j=G.S k j)∧G'.aV k=some (.ba lv t j)):jA G' w' lv t g ob:=by
 cases ob with
 | box cells=>
   obtain⟨cs,ty,J,aa,ar,aP⟩:=h
   exact⟨cs,ty,av.1.trans J,aa,fun j=>(av.2 j).trans (ar j),fun j au=>(aP j au).mono hle (al j)⟩
 | arr iv sz l=>
   obtain⟨cs,ty,J,aa,ar,aP,bf⟩:=h
   refine⟨cs,ty,av.1.trans J,aa,ar,fun i j hi au=>hle.dg (aP i j hi au),?_⟩
   cases iv
   ·exact fun j=>(av.2 j).trans (bf j)
   ·exact fun j au=>(av.2 j).trans (bf j au)
 | map es=>
   obtain⟨bo,kx,J,aa,ar,bf,aP⟩:=h
   exact⟨bo,kx,av.1.trans J,aa,fun j=>(av.2 j).trans (ar j),bf,fun i hi=>⟨hle.dg (aP i hi).1,hle.dg (aP i hi).2⟩⟩
 | lJ sz l=>
   obtain⟨cs,ty,bs,J,aa,ar,aP,bf,b4,dh⟩:=h
   exact⟨cs,ty,bs,av.1.trans J,aa,ar,fun j=>(av.2 j).trans (aP j),bf,fun b ad=>(al 0 b (b4 b ad)).2.2,dh.mono (fun v x _=>hle.dg) fun b ad=>⟨(al 0 b (b4 b ad)).1,(al 0 b (b4 b ad)).2.1⟩⟩
 | dir sz l=>
   obtain⟨cs,ty,J,aa,ar,aP,bf⟩:=h
   exact⟨cs,ty,av.1.trans J,aa,ar,fun i j hi au=>hle.dg (aP i j hi au),fun j=>(av.2 j).trans (bf j)⟩
theorem jA.bP {G:bh} {w:World} {lv t g:Nat} {ob:ax} (h:jA G w lv t g ob) (f:bd→bd) (arM:∀j,f (.ba lv t j)=.ba lv t j):jA (G.bP f) w lv t g ob:=
 h.mono (G.m6 f) ⟨rfl,fun _=>rfl⟩ fun j k ay=>⟨rfl,fun _=>rfl,by rw[dw ay,arM]⟩
theorem o2 {lv:Nat} {G:bh} {w:World} {f:bd→bd} (h:∀p,f p=p∨y7 lv p):Fr lv G w (G.bP f) w:=by
 refine⟨rfl,rfl,rfl,Nat.le_refl _,fun g av hm=>⟨rfl,?_,fun _=>rfl⟩,fun _ _ _ h=>h,fun _ _ _=>rfl⟩
 cases bA:G.aV g with
 | none=>simp[bh.bP,bA]
 | some p=>
   rw[dw bA]
   rcases h p with h | h
   ·rw[h]
   ·exact absurd h (hm p bA)
theorem lR {G:bh} {w:World} {f:bd→bd} (h:∀g p,G.aV g=some p→g<w.heap.size):∀g p,(G.bP f).aV g=some p→g<w.heap.size:=by
 intro g p arM
 cases bA:G.aV g with
 | none=>simp[bh.bP,bA]at arM
 | some q=>exact h g q bA
theorem V.pU (v:V):v.view.view=v.view:=by
 cases v<;>try rfl
 simp only[V.view,List.map_map]
 congr 1
 refine List.map_congr_left fun x _=>?_
 cases x<;>rfl
theorem V.FM (v:V):∀l,v.view≠.tup l:=by cases v<;>intro l h<;>cases h
def wD (lv i:Nat):bd→bd
 | .h4 l t c j=>if l=lv∧t=i then .rs c j else .h4 l t c j
 | p=>p
theorem Rel.take {G:bh} {s:ab} {a:Act} {w:World} (h:Rel G s a w) (i:Nat):
 ∃G',Rel G' (s.put i (s.t i).view) a w∧bZ G' w bd.rs (s.t i) (a.tmps.getD i undef)∧Fr s.lv G w G' w∧(∀c j g,G.aV g=some (.rs c j)→G'.aV g=some (.rs c j))∧G'.S=G.S∧G'.β=G.β:=by
 have BI:∀c j,wD s.lv i (.h4 s.lv i c j)=.rs c j:=fun c j=>by simp[wD]
 refine⟨G.bP (wD s.lv i),⟨h.size,h.defers,fun t=>?_,fun lv t ob cq=>?_,h.fC,h.cZ,lR h.aX⟩,(h.slot i).bP _ BI,o2 ?_,fun c j g av=>by rw[dw av];rfl,rfl,rfl⟩
 ·by_cases aK:t=i
  ·subst aK
   have:(s.put t (s.t t).view).t t=(s.t t).view:=by simp[ab.put,ae]
   rw[this]
   exact bZ.j3 ((G.m6 _).dg (h.slot t).view) (V.pU _) (V.FM _)
  ·have:(s.put i (s.t i).view).t t=s.t t:=by simp[ab.put,ae,aK]
   rw[this]
   exact(h.slot t).bP _ fun c j=>by
    have:(ab.put s i (s.t i).view).lv=s.lv:=rfl
    simp[wD,aK,this]
 ·obtain⟨g,J,aa,ar⟩:=h.obj lv t ob cq
  exact⟨g,J,by rw[dw aa];rfl,ar.bP _ fun j=>rfl⟩
 ·intro p
  cases p with
  | h4 l t c j=>
    by_cases ai:l=s.lv∧t=i
    ·exact .inr (by rw[ai.1];exact Nat.le_refl _)
    ·exact .inl (by simp[wD,ai])
  | _=>exact .inl rfl
def Mk (lv d:Nat):bd→bd
 | .rs c j=>.h4 lv d c j
 | p=>p
theorem Ml {α:Type} (x:Array α) (d t:Nat) (v u:α):(x.setIfInBounds d v).getD t u=if t=d∧d<x.size then v else x.getD t u:=by
 simp only[Array.getD_eq_getD_getElem?,Array.getElem?_setIfInBounds]
 by_cases aw:d=t
 ·subst aw
  by_cases al:d<x.size
  ·simp[al]
  ·simp[al]
 ·have:¬t=d:=fun e=>aw e.symm
  simp[aw,this]
theorem Rel.put {G:bh} {s:ab} {a:Act} {w:World} (h:Rel G s a w) {v:V} {x:Value} (arL:bZ G w bd.rs v x) (d:Nat) (aw:d<s.n):
 ∃G',Rel G' (s.put d v) (a.put (some d) x) w∧Fr s.lv G w G' w∧G'.S=G.S∧G'.β=G.β:=by
 refine⟨G.bP (Mk s.lv d),⟨by simp[Act.put,ab.put,h.size],h.defers,fun t=>?_,fun lv t ob cq=>?_,h.fC,h.cZ,lR h.aX⟩,o2 ?_,rfl,rfl⟩
 ·show bZ _ _ _ _ ((a.tmps.setIfInBounds d x).getD t undef)
  rw[Ml]
  by_cases aK:t=d
  ·subst aK
   have:(s.put t v).t t=v:=by simp[ab.put,ae]
   rw[this,if_pos ⟨rfl,h.size▸aw⟩]
   exact arL.bP _ fun c j=>rfl
  ·have:(s.put d v).t t=s.t t:=by simp[ab.put,ae,aK]
   rw[this,if_neg (fun e=>aK e.1)]
   exact(h.slot t).bP _ fun c j=>rfl
 ·obtain⟨g,J,aa,ar⟩:=h.obj lv t ob cq
  exact⟨g,J,by rw[dw aa];rfl,ar.bP _ fun j=>rfl⟩
 ·intro p
  cases p with
  | rs c j=>exact .inr trivial
  | _=>exact .inl rfl
theorem Mm {P:Program} {S β} (ty:TypeId) (v:Value):aH S β (oW P ty v).view v:=by
 unfold oW
 split
 ·exact .bool _
 ·exact .int _ _
 ·exact .str _
 ·exact .h5 _ _ _
 ·exact .dD
 ·exact .bK
 ·exact .undef _
theorem Rel.aM {G:bh} {s:ab} {a:Act} {w:World} (h:Rel G s a w) (P:Program) (ty:TypeId) (x:Operand):aH G.S G.β (s.aM P ty x) (a.eval x):=by
 cases x with
 | tmp i=>exact(h.slot i).view
 | const v=>exact Mm ty v
 | func f=>exact .fn f [] #[] rfl (fun i hi=>absurd hi (Nat.not_lt_zero _))
 | global g=>exact .undef _
theorem ua (s:ab) (P:Program) (ty:TypeId) (x:Operand):(s.aM P ty x).view=s.aM P ty x:=by
 cases x<;>first | exact V.pU _ | rfl
theorem y8 (s:ab) (P:Program) (ty:TypeId) (x:Operand):∀l,s.aM P ty x≠.tup l:=by
 cases x<;>first | exact V.FM _ | (intro l h;cases h)
theorem Rel.grow {G G':bh} {s:ab} {a:Act} {w w':World} (h:Rel G s a w) (hle:ch G G') (dk:G'.β=G.β)
 (al:∀g p,(∀c j,p≠.rs c j)→G.aV g=some p→w'.heap[g]?=w.heap[g]?∧(∀j,G'.S g j=G.S g j)∧G'.aV g=some p)
 (j4:∀g j c,G'.S g j=some c→w'.cell? ⟨g,j,none⟩=some c) (asa:∀g p,G'.aV g=some p→g<w'.heap.size):Rel G' s a w':=
 ⟨h.size,h.defers,fun t=>(h.slot t).mono hle fun c j g av=>al g _ (fun _ _ e=>by cases e) av,fun lv t ob cq=>by
   obtain⟨g,J,aa,ar⟩:=h.obj lv t ob cq
   obtain⟨aq,aF,aW⟩:=al g _ (fun _ _ e=>by cases e) aa
   exact⟨g,hle.β _ _ _ J,aW,ar.mono hle ⟨aq,aF⟩ fun j k ay=>al k _ (fun _ _ e=>by cases e) ay⟩,fun lv t g av=>h.fC lv t g (by rw[←dk];exact av),j4,asa⟩
end Go.aB
namespace Go.aB
open Go
def b5 (P:Program) (o:Oper) (G:bh) (s:ab) (a:Act) (w:World) (v:V) (s1:ab):Prop:=
 ∃x w' G',(execOp a.eval o).run P w=.ok (.value x) w'∧Rel G' s1 a w'∧bZ G' w' bd.rs v x∧Fr s.lv G w G' w'
variable {P:Program} {G:bh} {s:ab} {a:Act} {w:World} {o:Oper}
theorem b5.pure (h:Rel G s a w) {v:V} {x:Value} (aI:(execOp a.eval o).run P w=.ok (.value x) w) (a6:aH G.S G.β v x) (arL:v.view=v) (aK:∀l,v≠.tup l):b5 P o G s a w v s:=
 ⟨x,w,G,aI,h,bZ.j3 a6 arL aK,Fr.refl _ _ _⟩
theorem lS {t:TypeId} (h:az P t≠0):∃i d,P.info? t=some i∧P.underlying t=some d∧az P t=i.size∧P.cellsOf t=i.size:=by
 unfold az at h⊢
 cases hi:P.info? t with
 | none=>simp[hi]at h
 | some i=>
   cases aw:P.underlying t with
   | none=>simp[hi,aw]at h
   | some d=>exact⟨i,d,rfl,rfl,rfl,by simp[Program.cellsOf,hi]⟩
theorem lT {t:TypeId} (h:az P t≠0) (w:World):(sizeOf t).run P w=.ok (az P t) w:=by
 obtain⟨i,d,J,aa,ar,aP⟩:=lS h
 simp only[sizeOf,Sem.run_bind,typeInfo,run_program,Result.andThen_ok,J,Sem.run_pure,ar]
theorem BJ {t:TypeId} (h:(P.underlying t).isSome) (w:World):(Go.isAgg t).run P w=.ok (isAgg P t) w:=by
 obtain⟨d,aw⟩:=Option.isSome_iff_exists.1 h
 unfold Go.isAgg aB.isAgg
 simp only[Sem.run_bind,run_underlying aw,Result.andThen_ok,aw]
 cases d<;>rfl
theorem Mn {d:Option Nat} {ty:TypeId} {pos:String} {af:Array Edge} {gd:Option (Nat×Bool)} {x:Operand} (h:Rel G s a w) (op:Op) (dt:op=.move x∨op=.assign x):
 b5 P ⟨d,op,ty,pos,af,gd⟩ G s a w (s.aM P ty x) s:=by
 refine b5.pure h (x:=a.eval x) ?_ (h.aM P ty x) (ua _ _ _ _) (y8 _ _ _ _)
 rcases dt with rfl | rfl<;>rfl
theorem Mo {d:Option Nat} {ty:TypeId} {pos:String} {af:Array Edge} {gd:Option (Nat×Bool)} {i:Nat} (h:Rel G s a w) (op:Op) (dt:op=.move (.tmp i)∨op=.assign (.tmp i)):
 b5 P ⟨d,op,ty,pos,af,gd⟩ G s a w (s.t i) (s.drop (.tmp i)):=by
 obtain⟨G',J,aa,ar,_⟩:=h.take i
 refine⟨a.eval (.tmp i),w,G',?_,J,aa,ar⟩
 rcases dt with rfl | rfl<;>rfl
theorem Mp {G:bh} {w:World} (p:Nat→Nat→bd) (ty:TypeId) (v:Value):bZ G w p (oW P ty v) v:=by
 unfold oW
 split
 ·exact aH.bool _
 ·exact aH.int _ _
 ·exact aH.str _
 ·exact⟨aH.h5 _ _ _,none,0,rfl,.inl rfl⟩
 ·exact aH.dD
 ·exact aH.bK
 ·exact aH.undef _
theorem y9 {G:bh} {w:World} (p:Nat→Nat→bd) (ty:TypeId) (x:Operand) (U:∀i,x≠.tmp i):bZ G w p (rd P s.t ty x) (a.eval x):=by
 cases x with
 | tmp i=>exact absurd rfl (U i)
 | const v=>exact Mp p ty v
 | func f=>exact aH.fn f [] #[] rfl (fun i hi=>absurd hi (Nat.not_lt_zero _))
 | global g=>exact aH.undef _
theorem Mq {d:Option Nat} {ty:TypeId} {pos:String} {af:Array Edge} {gd:Option (Nat×Bool)} {x:Operand} (h:Rel G s a w) (op:Op) (dt:op=.move x∨op=.assign x) (U:∀i,x≠.tmp i):
 b5 P ⟨d,op,ty,pos,af,gd⟩ G s a w (rd P s.t ty x) s:=by
 refine⟨a.eval x,w,G,?_,h,y9 _ ty x U,Fr.refl _ _ _⟩
 rcases dt with rfl | rfl<;>rfl
theorem aH.j5 {S β} {b:Bool} {x:Value} (h:aH S β (.bool b) x):x=.bool b:=by cases h;rfl
theorem aH.fD {S β} {k:IntKind} {n:Int} {x:Value} (h:aH S β (.int k n) x):x=.int k n:=by cases h;rfl
theorem aH.ky {S β} {b:ByteArray} {x:Value} (h:aH S β (.str b) x):x=.string b:=by cases h;rfl
theorem aH.ite {S β} {c:Bool} {v u:V} {x y:Value} (h:aH S β v x) (k:aH S β u y):aH S β (V.ite c v u) (if c=true then x else y):=by
 have gen:∀{p q:V} {x y:Value},aH S β p x→aH S β q y→aH S β (if c=true then p else q) (if c=true then x else y):=by
  intro p q x y arM aE
  cases c
  ·exact aE
  ·exact arM
 cases v<;>cases u<;>try exact gen h k
 ·rw[h.j5,k.j5];cases c<;>exact aH.bool _
 ·rename_i aq fk aF hx
  rw[h.fD,k.fD]
  unfold V.ite
  by_cases ay:aq=aF
  ·subst ay;simp only[if_true];cases c<;>exact aH.int _ _
  ·simp only[if_neg ay];exact aH.undef _
 ·rw[h.ky,k.ky];cases c<;>exact aH.str _
theorem Mr {c:Bool} {v u:V} (arL:v.view=v) (hu:u.view=u):(V.ite c v u).view=V.ite c v u:=by
 have gen:∀{p q:V},p.view=p→q.view=q→(if c=true then p else q).view=if c=true then p else q:=by
  intro p q arM aE
  cases c
  ·exact aE
  ·exact arM
 cases v<;>cases u
 case int.int k n bI j6=>show(if k=bI then V.int k (if c=true then n else j6)else V.undef).view=_;by_cases ay:k=bI<;>simp[ay,V.ite,V.view,V.cM]
 case bool.bool=>rfl
 case str.str=>rfl
 all_goals exact gen arL hu
theorem Ms {c:Bool} {v u:V} (arL:∀l,v≠.tup l) (hu:∀l,u≠.tup l):∀l,V.ite c v u≠.tup l:=by
 intro l
 have gen:∀{p q:V},p≠.tup l→q≠.tup l→(if c=true then p else q)≠.tup l:=by
  intro p q arM aE
  cases c
  ·exact aE
  ·exact arM
 cases v<;>cases u
 case int.int k n bI j6=>show(if k=bI then V.int k (if c=true then n else j6)else V.undef)≠_;split<;>(intro e;cases e)
 case bool.bool=>intro e;cases e
 case str.str=>intro e;cases e
 all_goals exact gen (arL l) (hu l)
theorem Mt {d:Option Nat} {ty:TypeId} {pos:String} {af:Array Edge} {gd:Option (Nat×Bool)} {c x y:Operand} (h:Rel G s a w) {qO:Bool} (ah:s.aM P 0 c=.bool qO):
 b5 P ⟨d,.pick c x y,ty,pos,af,gd⟩ G s a w (V.ite qO (s.aM P ty x) (s.aM P ty y)) s:=by
 have J:=h.aM P 0 c
 rw[ah]at J
 refine b5.pure h (x:=if qO=true then a.eval x else a.eval y) ?_ ((h.aM P ty x).ite (h.aM P ty y)) (Mr (ua _ _ _ _) (ua _ _ _ _)) (Ms (y8 _ _ _ _) (y8 _ _ _ _))
 simp only[execOp,J.j5,asBool,Sem.run_bind,Sem.run_pure,Result.andThen_ok]
theorem Mu {d:Option Nat} {ty:TypeId} {pos:String} {af:Array Edge} {gd:Option (Nat×Bool)} {x:Operand} (h:Rel G s a w) {v:V} (ah:s.aM P 0 x=v)
 (arL:(∃lv t off,v=.ptr lv t off)∨(∃l,v=.imp l)∨(∃lv t i sz,v=.gA lv t i sz)∨∃f c,v=.fn f c):
 b5 P ⟨d,.nilCheck x,ty,pos,af,gd⟩ G s a w v s:=by
 have J:=h.aM P 0 x
 rw[ah]at J
 have aa:=ua s P 0 x
 have ar:=y8 s P 0 x
 rw[ah]at aa ar
 refine b5.pure h (x:=a.eval x) ?_ J aa ar
 simp only[execOp]
 generalize a.eval x=y at J
 rcases arL with⟨lv,t,off,rfl⟩ | ⟨l,rfl⟩ | ⟨lv,t,i,sz,rfl⟩ | ⟨f,c,rfl⟩<;>cases J<;>rfl
theorem eN {s:Sem Value} {x:Value} {w w':World} (h:s.run P w=.ok x w'):((do pure (Next.value (←s)):Sem Next)).run P w=.ok (.value x) w':=by
 simp only[Sem.run_bind,h,Result.andThen_ok,Sem.run_pure]
theorem Mv {op:BinOp} {k:IntKind} {n m:Int} {v:V} (dt:op≠.shl∧op≠.shr) (t:TypeId) (h:arith op k n m=some v) (w:World):∃x,(binOp op t (.int k n) (.int k m)).run P w=.ok x w∧aH G.S G.β v x∧v.view=v∧∀l,v≠.tup l:=by
 cases op<;>simp only[arith,Option.some.injEq,reduceCtorEq]at h
 case add=>subst h;exact⟨_,by simp only[binOp,ne_eq,not_true_eq_false,if_false,Op.intArith,Sem.run_pure],aH.int _ _,rfl,fun l e=>by cases e⟩
 case sub=>subst h;exact⟨_,by simp only[binOp,ne_eq,not_true_eq_false,if_false,Op.intArith,Sem.run_pure],aH.int _ _,rfl,fun l e=>by cases e⟩
 case mul=>subst h;exact⟨_,by simp only[binOp,ne_eq,not_true_eq_false,if_false,Op.intArith,Sem.run_pure],aH.int _ _,rfl,fun l e=>by cases e⟩
 case and=>subst h;exact⟨_,by simp only[binOp,ne_eq,not_true_eq_false,if_false,Op.intBits,Sem.run_pure],aH.int _ _,rfl,fun l e=>by cases e⟩
 case or=>subst h;exact⟨_,by simp only[binOp,ne_eq,not_true_eq_false,if_false,Op.intBits,Sem.run_pure],aH.int _ _,rfl,fun l e=>by cases e⟩
 case xor=>subst h;exact⟨_,by simp only[binOp,ne_eq,not_true_eq_false,if_false,Op.intBits,Sem.run_pure],aH.int _ _,rfl,fun l e=>by cases e⟩
 case eql=>subst h;exact⟨_,by simp only[binOp,ne_eq,not_true_eq_false,if_false,Op.intCmp,Sem.run_pure],aH.bool _,rfl,fun l e=>by cases e⟩
 case neq=>subst h;exact⟨_,by simp only[binOp,ne_eq,not_true_eq_false,if_false,Op.intCmp,Sem.run_pure],aH.bool _,rfl,fun l e=>by cases e⟩
 case lss=>subst h;exact⟨_,by simp only[binOp,ne_eq,not_true_eq_false,if_false,Op.intCmp,Sem.run_pure],aH.bool _,rfl,fun l e=>by cases e⟩
 case leq=>subst h;exact⟨_,by simp only[binOp,ne_eq,not_true_eq_false,if_false,Op.intCmp,Sem.run_pure],aH.bool _,rfl,fun l e=>by cases e⟩
 case gtr=>subst h;exact⟨_,by simp only[binOp,ne_eq,not_true_eq_false,if_false,Op.intCmp,Sem.run_pure],aH.bool _,rfl,fun l e=>by cases e⟩
 case geq=>subst h;exact⟨_,by simp only[binOp,ne_eq,not_true_eq_false,if_false,Op.intCmp,Sem.run_pure],aH.bool _,rfl,fun l e=>by cases e⟩
 case quo=>
  split at h
  ·cases h
  ·rename_i hm
   obtain rfl:=Option.some.inj h
   refine⟨.int k (k.wrap (n.tdiv m)),?_,aH.int _ _,rfl,fun l e=>by cases e⟩
   simp[binOp,Op.intDiv,hm]
 case rem=>
  split at h
  ·cases h
  ·rename_i hm
   obtain rfl:=Option.some.inj h
   refine⟨.int k (n.tmod m),?_,aH.int _ _,rfl,fun l e=>by cases e⟩
   simp[binOp,Op.intDiv,hm]
theorem FN {op:BinOp} {k bI:IntKind} {n m:Int} {v:V} (dt:op=.shl∨op=.shr) (t:TypeId) (h:yL op k n m=some v) (w:World):∃x,(binOp op t (.int k n) (.int bI m)).run P w=.ok x w∧aH G.S G.β v x∧v.view=v∧∀l,v≠.tup l:=by
 unfold yL at h
 split at h
 ·cases h
 ·rename_i hm
  rcases dt with rfl | rfl
  ·obtain rfl:=Option.some.inj h
   exact⟨.int k (k.wrap (n*2^(min m.toNat k.bits))),by simp[binOp,Op.shift,hm],aH.int _ _,rfl,fun l e=>by cases e⟩
  ·obtain rfl:=Option.some.inj h
   exact⟨.int k (n.fdiv (2^(min m.toNat k.bits))),by simp[binOp,Op.shift,hm],aH.int _ _,rfl,fun l e=>by cases e⟩
theorem Mw {op:BinOp} {x y:ByteArray} {v:V} (t:TypeId) (h:yM op x y=some v) (w:World):∃z,(binOp op t (.string x) (.string y)).run P w=.ok z w∧aH G.S G.β v z∧v.view=v∧∀l,v≠.tup l:=by
 cases op<;>simp only[yM,Option.some.injEq,reduceCtorEq]at h
 case add=>
  split at h
  ·cases h
  ·rename_i hm
   obtain rfl:=Option.some.inj h
   refine⟨.string (x++y),?_,aH.str _,rfl,fun l e=>by cases e⟩
   have eT:¬((x.size+y.size:Nat):Int)>IntKind.i64.max:=hm
   simp only[binOp,Op.stringOp,if_neg eT,Sem.run_pure]
 case eql=>subst h;exact⟨_,by simp only[binOp,Op.stringOp,Sem.run_pure],aH.bool _,rfl,fun l e=>by cases e⟩
 case neq=>subst h;exact⟨_,by simp only[binOp,Op.stringOp,Sem.run_pure],aH.bool _,rfl,fun l e=>by cases e⟩
 case lss=>subst h;exact⟨_,rfl,aH.bool _,rfl,fun l e=>by cases e⟩
 case geq=>subst h;exact⟨_,rfl,aH.bool _,rfl,fun l e=>by cases e⟩
end Go.aB
namespace Go.aB
open Go
variable {P:Program} {G:bh} {s:ab} {a:Act} {w:World} {o:Oper}
variable {d:Option Nat} {ty:TypeId} {pos:String} {af:Array Edge} {gd:Option (Nat×Bool)}
theorem Mx {op:UnOp} {v u:V} {x:Value} (arL:aH G.S G.β v x) (h:wm op v=some u) (w:World):∃y,(Op.unary op x).run P w=.ok y w∧aH G.S G.β u y∧u.view=u∧∀l,u≠.tup l:=by
 unfold wm at h
 split at h
 ·rw[arL.j5];obtain rfl:=Option.some.inj h;exact⟨_,rfl,aH.bool _,rfl,fun l e=>by cases e⟩
 ·rw[arL.fD];obtain rfl:=Option.some.inj h;exact⟨_,rfl,aH.int _ _,rfl,fun l e=>by cases e⟩
 ·cases h
theorem My {op:UnOp} {t:TypeId} {x:Operand} {v:V} (h:Rel G s a w) (arL:wm op (s.aM P t x)=some v):b5 P ⟨d,.unOp op t x,ty,pos,af,gd⟩ G s a w v s:=by
 obtain⟨y,J,aa,ar,aP⟩:=Mx (P:=P) (h.aM P t x) arL w
 exact b5.pure h (eN J) aa ar aP
theorem BK {b6:TypeDesc} {x y:V} {r:Bool} {b c:Value} (h:kU b6 x y=some r) (U:aH G.S G.β x b) (aA:aH G.S G.β y c) {t:TypeId} (aK:P.underlying t=some b6) (w:World) (n:Nat):(Op.equalIn (n+1) t b c).run P w=.ok r w:=by
 unfold kU at h
 split at h
 ·split at h
  ·rename_i ay;subst ay
   obtain rfl:=Option.some.inj h
   rw[U.fD,aA.fD]
   exact run_equalIn_int w n t _ _ _ _ aK
  ·cases h
 ·obtain rfl:=Option.some.inj h
  rw[U.j5,aA.j5]
  exact run_equalIn_bool' w n t _ _ aK
 ·obtain rfl:=Option.some.inj h
  rw[U.ky,aA.ky]
  exact run_equalIn_string w n t _ _ aK
 ·cases h
theorem r9 {b6:TypeDesc} {x y:V} {r:Bool} (h:kU b6 x y=some r):(∃k,b6=.int k)∨b6=.bool∨b6=.string:=by
 unfold kU at h
 split at h
 ·exact .inl ⟨_,rfl⟩
 ·exact .inr (.inl rfl)
 ·exact .inr (.inr rfl)
 ·cases h
theorem ub {b6:TypeDesc} (al:(∃k,b6=.int k)∨b6=.bool∨b6=.string) {t:TypeId} (aK:P.underlying t=some b6) {cs:Array Value} {n:Nat} (aC:n<cs.size) (w:World):(part t cs n).run P w=.ok (cs.getD n undef) w:=by
 unfold part
 have J:(Go.isAgg t).run P w=.ok false w:=by
  rw[BJ (by rw[aK];rfl)]
  unfold aB.isAgg
  rw[aK]
  rcases al with⟨k,rfl⟩ | rfl | rfl<;>rfl
 simp only[Sem.run_bind,J,Result.andThen_ok,Bool.false_eq_true,if_false]
 rw[Array.getElem?_eq_getElem aC]
 simp[Array.getD,aC]
theorem Mz:∀(bW:List Field) (n:Nat) (l m:List V) (r:Bool) (xs ei:Array Value),ku P n bW l m=some r→n+l.length=xs.size→n+m.length=ei.size→
 (∀i,i<l.length→aH G.S G.β (l.getD i .undef) (xs.getD (n+i) undef))→(∀i,i<m.length→aH G.S G.β (m.getD i .undef) (ei.getD (n+i) undef))→∀(w:World) (k:Nat),(Op.eqFields (k+1) xs ei bW).run P w=.ok r w:=by
 intro bW
 induction bW with
 | nil=>
   intro n l m r xs ei h _ _ _ _ w k
   cases l<;>cases m<;>simp only[ku,reduceCtorEq,Option.some.injEq]at h
   subst h
   rfl
 | cons f bW ag=>
   intro n l m r xs ei h U aA ai hm w k
   cases l with
   | nil=>simp[ku]at h
   | cons b l=>
     cases m with
     | nil=>simp[ku]at h
     | cons c m=>
       simp only[ku]at h
       split at h
       ·rename_i aJ
        split at h
        ·rename_i b6 lU
         split at h
         ·rename_i p q arM aE
          obtain rfl:=Option.some.inj h
          have ad:=ai 0 (by simp)
          have ah:=hm 0 (by simp)
          simp only[List.getD_cons_zero,Nat.add_zero]at ad ah
          have BL:n<xs.size:=by simp at U;omega
          have BM:n<ei.size:=by simp at aA;omega
          have aR:=ub (P:=P) (r9 arM) lU BL w
          have a7:=ub (P:=P) (r9 arM) lU BM w
          have cj:=BK (P:=P) arM ad ah lU w k
          have da:=ag (n+1) l m q xs ei aE (by simp at U;omega) (by simp at aA;omega) (fun i hi=>by
           have:=ai (i+1) (by simpa using hi)
           rwa [List.getD_cons_succ,show n+(i+1)=n+1+i by omega]at this) (fun i hi=>by
           have:=hm (i+1) (by simpa using hi)
           rwa [List.getD_cons_succ,show n+(i+1)=n+1+i by omega]at this) w k
          have aC:f.name≠ "_" :=by simpa using aJ.2
          rw[Op.eqFields]
          simp only[if_pos aC,Sem.run_bind,aJ.1,aR,a7,cj,Result.andThen_ok]
          cases p
          ·simp
          ·simpa using da
         ·cases h
        ·cases h
       ·cases h
theorem aH.jB {S β} {l:List V} {x:Value} (h:aH S β (.agg l) x):∃cs,x=.agg cs∧l.length=cs.size∧∀i,i<l.length→aH S β (l.getD i .undef) (cs.getD i Go.undef):=by
 cases h with
 | agg _ cs ai a6=>exact⟨cs,rfl,ai,a6⟩
theorem MA {b6:TypeDesc} {e:TypeId} (he:P.underlying e=some b6) (al:az P e=1):∀(l m:List V) (r:Bool) (n:Nat) (xs ei:Array Value),mu b6 l m=some r→n+l.length=xs.size→n+m.length=ei.size→
 (∀i,i<l.length→aH G.S G.β (l.getD i .undef) (xs.getD (n+i) Go.undef))→(∀i,i<m.length→aH G.S G.β (m.getD i .undef) (ei.getD (n+i) Go.undef))→∀(w:World) (k:Nat),(Op.eqItems (k+1) e (P.cellsOf e) xs ei (List.range' n l.length)).run P w=.ok r w:=by
 have ah:P.cellsOf e=1:=by
  obtain⟨i,d,J,aa,ar,aP⟩:=lS (P:=P) (t:=e) (by omega)
  omega
 intro l
 induction l with
 | nil=>
   intro m r n xs ei h _ _ _ _ w k
   cases m<;>simp only[mu,reduceCtorEq,Option.some.injEq]at h
   subst h
   rfl
 | cons b l ag=>
   intro m r n xs ei h U aA ai hm w k
   cases m with
   | nil=>simp[mu]at h
   | cons c m=>
     simp only[mu]at h
     split at h
     ·rename_i p q arM aE
      obtain rfl:=Option.some.inj h
      have ad:=ai 0 (by simp)
      have ey:=hm 0 (by simp)
      simp only[List.getD_cons_zero,Nat.add_zero]at ad ey
      have BL:n<xs.size:=by simp at U;omega
      have BM:n<ei.size:=by simp at aA;omega
      have aR:=ub (P:=P) (r9 arM) he BL w
      have a7:=ub (P:=P) (r9 arM) he BM w
      have cj:=BK (P:=P) arM ad ey he w k
      have da:=ag m q (n+1) xs ei aE (by simp at U;omega) (by simp at aA;omega) (fun i hi=>by
       have:=ai (i+1) (by simpa using hi)
       rwa [List.getD_cons_succ,show n+(i+1)=n+1+i by omega]at this) (fun i hi=>by
       have:=hm (i+1) (by simpa using hi)
       rwa [List.getD_cons_succ,show n+(i+1)=n+1+i by omega]at this) w k
      rw[ah]at da
      simp only[List.length_cons,List.range'_succ,Op.eqItems,ah,Nat.mul_one,Sem.run_bind,aR,a7,cj,Result.andThen_ok]
      cases p
      ·simp
      ·simpa using da
     ·cases h
theorem uc {t:TypeId} {x y:V} {r:Bool} {b c:Value} (h:ea P t x y=some r) (U:aH G.S G.β x b) (aA:aH G.S G.β y c) (w:World):(Op.equal t b c).run P w=.ok r w:=by
 unfold ea at h
 unfold Op.equal
 show(Op.equalIn (9998+1+1) t b c).run P w=_
 split at h
 ·rename_i bW hu
  split at h
  ·rename_i arM
   split at h
   ·rename_i l m
    obtain⟨xs,rfl,ai,lV⟩:=U.jB
    obtain⟨ei,rfl,hm,ud⟩:=aA.jB
    have aJ:P.fieldsOf t=bW:=by simp[Program.fieldsOf,hu]
    rw[run_equalIn_struct (P:=P) w _ t xs ei (by rw[aJ];exact hu) arM,aJ]
    exact Mz bW.toList 0 l m r xs ei h (by omega) (by omega) (fun i hi=>by rw[Nat.zero_add];exact lV i hi) (fun i hi=>by rw[Nat.zero_add];exact ud i hi) w _
   ·cases h
  ·cases h
 ·rename_i n e hu
  split at h
  ·rename_i l m
   split at h
   ·rename_i ah
    split at h
    ·rename_i b6 he
     obtain⟨xs,rfl,ai,lV⟩:=U.jB
     obtain⟨ei,rfl,hm,ud⟩:=aA.jB
     obtain⟨i,d,J,aa,ar,aP⟩:=lS (P:=P) (t:=e) (by omega)
     rw[run_equalIn_array w _ xs ei hu J,List.range_eq_range',←ah.1]
     exact MA he ah.2 l m r 0 xs ei h (by omega) (by omega) (fun i hi=>by rw[Nat.zero_add];exact lV i hi) (fun i hi=>by rw[Nat.zero_add];exact ud i hi) w _
    ·cases h
   ·cases h
  ·cases h
 ·rename_i b6 _ _ hu
  exact BK h U aA hu w _
 ·cases h
theorem MB {op:BinOp} {t:TypeId} {x y v:V} {b c:Value} {p q:Operand} (h:wi P t op x y=some v) (U:aH G.S G.β x b) (aA:aH G.S G.β y c) (w:World):
 ∃z,(do eqGuard op t p q b c;binOp op t b c:Sem Value).run P w=.ok z w∧aH G.S G.β v z∧v.view=v∧∀l,v≠.tup l:=by
 unfold wi at h
 have aE:∀k m bI nR,(eqGuard op t p q (.int k m) (.int bI nR)).run P w=.ok () w:=by
  intro k m bI nR
  unfold eqGuard
  by_cases aj:(op matches .eql | .neq)=true<;>simp[aj]
 split at h
 ·rename_i k n bI m
  rw[U.fD,aA.fD]
  simp only[Sem.run_bind,aE,Result.andThen_ok]
  split at h
  ·exact FN (.inl rfl) t h w
  ·exact FN (.inr rfl) t h w
  ·rename_i J aa
   split at h
   ·rename_i ay;subst ay
    exact Mv ⟨J,aa⟩ t h w
   ·cases h
 ·rename_i x y
  rw[U.ky,aA.ky]
  have aE:(eqGuard op t p q (.string x) (.string y)).run P w=.ok () w:=by
   unfold eqGuard
   by_cases aj:(op matches .eql | .neq)=true<;>simp[aj]
  simp only[Sem.run_bind,aE,Result.andThen_ok]
  exact Mw t h w
 ·rename_i x y
  have kz:=U
  have e3:=aA
  rw[U.j5]at kz⊢
  rw[aA.j5]at e3⊢
  have aE:(eqGuard op t p q (.bool x) (.bool y)).run P w=.ok () w:=by
   unfold eqGuard
   by_cases aj:(op matches .eql | .neq)=true<;>simp[aj]
  simp only[Sem.run_bind,aE,Result.andThen_ok]
  split at h
  ·obtain⟨r,aI,rfl⟩:=Option.map_eq_some_iff.1 h
   exact⟨.bool r,by simp only[binOp,Sem.run_bind,uc aI kz e3 w,Result.andThen_ok,Sem.run_pure],aH.bool _,rfl,fun l e=>by cases e⟩
  ·obtain⟨r,aI,rfl⟩:=Option.map_eq_some_iff.1 h
   exact⟨.bool (!r),by simp only[binOp,Sem.run_bind,uc aI kz e3 w,Result.andThen_ok,Sem.run_pure],aH.bool _,rfl,fun l e=>by cases e⟩
  ·cases h
 ·rename_i l m
  obtain⟨xs,ad,ai,lV⟩:=U.jB
  obtain⟨ei,ah,hm,ud⟩:=aA.jB
  subst ad;subst ah
  split at h
  ·rename_i av
   have aE:(eqGuard op t p q (.agg xs) (.agg ei)).run P w=.ok () w:=by
    unfold eqGuard
    by_cases aj:(op matches .eql | .neq)=true<;>simp[aj,av]
   simp only[Sem.run_bind,aE,Result.andThen_ok]
   split at h
   ·obtain⟨r,aI,rfl⟩:=Option.map_eq_some_iff.1 h
    exact⟨.bool r,by simp only[binOp,Sem.run_bind,uc aI U aA w,Result.andThen_ok,Sem.run_pure],aH.bool _,rfl,fun l e=>by cases e⟩
   ·obtain⟨r,aI,rfl⟩:=Option.map_eq_some_iff.1 h
    exact⟨.bool (!r),by simp only[binOp,Sem.run_bind,uc aI U aA w,Result.andThen_ok,Sem.run_pure],aH.bool _,rfl,fun l e=>by cases e⟩
   ·cases h
  ·cases h
 ·cases h
theorem MC {op:BinOp} {t u:TypeId} {x y:Operand} {v:V} (h:Rel G s a w) (arL:wi P t op (s.aM P t x) (s.aM P t y)=some v):b5 P ⟨d,.binOp op t x y u,ty,pos,af,gd⟩ G s a w v s:=by
 obtain⟨z,J,aa,ar,aP⟩:=MB (P:=P) (p:=x) (q:=y) arL (h.aM P t x) (h.aM P t y) w
 exact b5.pure h (eN J) aa ar aP
theorem MD {op:BinOp} {t u:TypeId} {x y:Operand} {v:V} (h:Rel G s a w) (aC:yN y=true) (arL:wj P op t (s.aM P t x)=some v):b5 P ⟨d,.binOp op t x y u,ty,pos,af,gd⟩ G s a w v s:=by
 have aA:y=.const (.slice none 0 0):=by
  unfold yN at aC
  split at aC
  ·rfl
  ·cases aC
 subst aA
 have U:=h.aM P t x
 generalize s.aM P t x=ue at arL U
 generalize nS:a.eval x=X at U
 have j7:∃b n cap,X=.slice (some b) n cap:=by
  unfold wj at arL
  split at arL
  ·cases U with
   | slc sz l b o cap c ah al a8 a6=>exact⟨_,_,_,rfl⟩
  ·cases U with
   | bS lv t n g cap ad ah=>exact⟨_,_,_,rfl⟩
  ·cases arL
 obtain⟨b,n,cap,rfl⟩:=j7
 have aE:hp P t=true∧((op=.eql∧v=.bool false)∨(op=.neq∧v=.bool true)):=by
  unfold wj at arL
  split at arL
  all_goals first
   | (cases arL;done)
   | (split at arL
      ·rename_i al
       refine⟨al,?_⟩
       split at arL
       ·exact .inl ⟨rfl,(Option.some.inj arL).symm⟩
       ·exact .inr ⟨rfl,(Option.some.inj arL).symm⟩
       ·cases arL
      ·cases arL)
 obtain⟨e,he⟩:∃e,P.underlying t=some (.slice e):=by
  have:=aE.1
  unfold hp at this
  split at this
  ·exact⟨_,by assumption⟩
  ·cases this
 have heq:(Op.equal t (.slice (some b) n cap) (.slice none 0 0)).run P w=.ok false w:=by
  unfold Op.equal
  rw[show Op.maxDepth=9999+1 from rfl]
  generalize 9999=N
  rw[Op.equalIn]
  simp only[Sem.run_bind,run_underlying he,Result.andThen_ok,Sem.run_pure]
 have ec:a.eval (.const (.slice none 0 0))=.slice none 0 0:=rfl
 rcases aE.2 with⟨rfl,rfl⟩ | ⟨rfl,rfl⟩
 ·refine b5.pure h (x:=.bool false) (eN ?_) (aH.bool _) rfl (fun l e=>by cases e)
  rw[nS,ec]
  simp only[eqGuard,Sem.run_bind,Bool.not_true,Bool.false_eq_true,if_false,Sem.run_pure,Result.andThen_ok,binOp,heq]
 ·refine b5.pure h (x:=.bool true) (eN ?_) (aH.bool _) rfl (fun l e=>by cases e)
  rw[nS,ec]
  simp only[eqGuard,Sem.run_bind,Bool.not_true,Bool.false_eq_true,if_false,Sem.run_pure,Result.andThen_ok,binOp,heq]
  rfl
end Go.aB
