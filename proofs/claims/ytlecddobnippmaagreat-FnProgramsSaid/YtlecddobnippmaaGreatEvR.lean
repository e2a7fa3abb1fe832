/- Products, with pairs as numbers. Sets of states as numbers; their sorted lists. Joins and repetitions of automata, over sets as numbers. Joins and repetitions as the reference numbers them: states with a set and a mark. Complements. Automata of words. What an expression compiles to. Programs of lines: what they do. Quotients: an automaton's answers moved by a word. Flat lists alone made: an automaton's. Frames, states and steps: what both sides compute. An assignment that freezes, in a drawn region. Automata in memory: made, read as they stand. -/
import Derived.Test.YtlecddobnippmaaGreatEvQ
import Derived.Test.YtlecddobnippmaaGreatEvP
set_option linter.unusedVariables false
set_option linter.unusedSimpArgs false
namespace Go.aB
open Go
section
variable {α β:Type} [DecidableEq α] [DecidableEq β]
theorem DZ {f:α→β} {Q:α→Prop} (aJ:∀x y,Q x→Q y→f x=f y→x=y) {l:List α} (ai:∀x∈l,Q x) {x:α} (U:Q x):ins (l.map f) (f x)=(ins l x).map f:=by
 unfold ins
 by_cases h:x∈l
 ·rw[if_pos h,if_pos (List.mem_map.2 ⟨x,h,rfl⟩)]
 ·rw[if_neg h,if_neg,List.map_append]
  ·rfl
  ·intro hm
   obtain⟨y,aA,e⟩:=List.mem_map.1 hm
   exact h (aJ y x (ai y aA) U e▸aA)
theorem Ve {f:α→β} {Q:α→Prop} (aJ:∀x y,Q x→Q y→f x=f y→x=y) {l:List α} (ai:∀x∈l,Q x) {t:α×α×α} (J:Q t.1) (aa:Q t.2.1) (ar:Q t.2.2):b0 (l.map f) (f t.1,f t.2.1,f t.2.2)=(b0 l t).map f:=by
 have bt:∀x∈ins l t.1,Q x:=fun x U=>by rcases vj.1 U with h | rfl;exact ai x h;exact J
 have bq:∀x∈ins (ins l t.1) t.2.1,Q x:=fun x U=>by rcases vj.1 U with h | rfl;exact bt x h;exact aa
 unfold b0
 rw[DZ aJ ai J,DZ aJ bt aa,DZ aJ bq ar]
theorem D0 {f:α→β} {Q:α→Prop} (aJ:∀x y,Q x→Q y→f x=f y→x=y) {g:α→α×α×α} {g':β→β×β×β} (e5:∀x,Q x→Q (g x).1∧Q (g x).2.1∧Q (g x).2.2) (av:∀x,Q x→g' (f x)=(f (g x).1,f (g x).2.1,f (g x).2.2)):∀(arP:Nat) (l:List α) (i:Nat),(∀x∈l,Q x)→eF g' arP (l.map f) i=(eF g arP l i).map f:=by
 intro arP
 induction arP with
 | zero=>intro l i _;rfl
 | succ arP ag=>
   intro l i ai
   by_cases hi:i<l.length
   ·have U:=ai _ (List.getElem_mem hi)
    have aE:=e5 _ U
    rw[lb (by simpa using hi),lb hi,List.getElem_map,av _ U,Ve aJ ai aE.1 aE.2.1 aE.2.2]
    refine ag _ _ fun x U=>?_
    rcases la.1 U with U | rfl | rfl | rfl
    ·exact ai x U
    ·exact aE.1
    ·exact aE.2.1
    ·exact aE.2.2
   ·rw[ki (by simpa using hi),ki hi]
theorem vv {f:α→β} {Q:α→Prop} (aJ:∀x y,Q x→Q y→f x=f y→x=y):∀{l:List α} {x:α},(∀y∈l,Q y)→Q x→cm (l.map f) (f x)=cm l x:=by
 intro l
 induction l with
 | nil=>intro x _ _;rfl
 | cons y l ag=>
   intro x ai U
   have aA:=ai y (List.mem_cons_self ..)
   have:=ag (fun z aD=>ai z (List.mem_cons_of_mem _ aD)) U
   unfold cm at this⊢
   rw[List.map_cons,List.idxOf_cons,List.idxOf_cons,this]
   by_cases e:y=x
   ·subst e;simp
   ·have cc:¬f y=f x:=fun h=>e (aJ y x aA U h)
    rw[beq_eq_false_iff_ne.2 e,beq_eq_false_iff_ne.2 cc]
end
def kN (b:ao) (x:Nat×Nat):Nat:=x.1*b.accept.length+x.2
def iW (a b:ao) (x:Nat):Nat×Nat×Nat:=((a.aN (x / b.accept.length)).1*b.accept.length+(b.aN (x%b.accept.length)).1,(a.aN (x / b.accept.length)).2.1*b.accept.length+(b.aN (x%b.accept.length)).2.1,(a.aN (x / b.accept.length)).2.2*b.accept.length+(b.aN (x%b.accept.length)).2.2)
def rp (kind:Int) (a b:ao) (x:Nat):Bool:=if kind=6 then bB a (x / b.accept.length)||bB b (x%b.accept.length)else bB a (x / b.accept.length)&&bB b (x%b.accept.length)
theorem rq {a b:ao} {x:Nat×Nat} (h:lh a b x):kN b x / b.accept.length=x.1∧kN b x%b.accept.length=x.2:=by
 have hm:0<b.accept.length:=by have:=h.2;omega
 unfold kN
 constructor
 ·rw[Nat.add_comm,Nat.add_mul_div_right _ _ hm,Nat.div_eq_of_lt h.2,Nat.zero_add]
 ·rw[Nat.add_comm,Nat.add_mul_mod_self_right,Nat.mod_eq_of_lt h.2]
theorem AK {a b:ao} (x y:Nat×Nat) (U:lh a b x) (aA:lh a b y) (h:kN b x=kN b y):x=y:=by
 have J:=rq U
 have aa:=rq aA
 rw[h]at J
 exact Prod.ext (J.1.symm.trans aa.1) (J.2.symm.trans aa.2)
theorem Jf {a b:ao} (x:Nat×Nat) (U:lh a b x):iW a b (kN b x)=(kN b (ik a b x).1,kN b (ik a b x).2.1,kN b (ik a b x).2.2):=by
 unfold iW
 rw[(rq U).1,(rq U).2]
 rfl
def rr (a b:ao):List Nat:=eF (iW a b) 1601 [0] 0
theorem Jg {a b:ao} (aO:bG a) (ad:bG b):∀x∈kM a b,lh a b x:=
 (DX (f:=ik a b) (Q:=lh a b) (fun x U=>AJ aO.ok ad.ok U) 1601 [(0,0)] 0 (by simp) (by
  intro x U
  rw[List.mem_singleton.1 U]
  exact⟨aO.pos,ad.pos⟩)).2
theorem D1 {a b:ao} (aO:bG a) (ad:bG b):rr a b=(kM a b).map (kN b):=by
 have:=D0 (f:=kN b) (Q:=lh a b) AK (g:=ik a b) (g':=iW a b) (fun x U=>AJ aO.ok ad.ok U) (fun x U=>Jf x U) 1601 [(0,0)] 0 (by
  intro x U
  rw[List.mem_singleton.1 U]
  exact⟨aO.pos,ad.pos⟩)
 have e:[(0,0)].map (kN b)=[0]:=by simp[kN]
 rw[e]at this
 exact this
theorem Vf {a b:ao} (aO:bG a) (ad:bG b) (kind:Int):(⟨(rr a b).map (rp kind a b),(rr a b).map fun x=>kJ (rr a b) (iW a b x)⟩:ao)=gQ kind a b:=by
 have dr:=Jg aO ad
 have ah:=DY (f:=ik a b) (most:=1600) (s:=(0,0)) (xY aO ad)
 have D2:eX (ik a b) 1600 (0,0)=kM a b:=rfl
 rw[D2]at ah
 unfold gQ er
 rw[D1 aO ad,List.map_map,List.map_map]
 congr 1
 ·refine List.map_congr_left fun x U=>?_
  show rp kind a b (kN b x)=_
  unfold rp vu
  rw[(rq (dr x U)).1,(rq (dr x U)).2]
 ·refine List.map_congr_left fun x U=>?_
  show kJ _ (iW a b (kN b x))=_
  rw[Jf x (dr x U)]
  have ar:=ah x U
  unfold kJ
  rw[vv AK dr (dr _ ar.1),vv AK dr (dr _ ar.2.1),vv AK dr (dr _ ar.2.2)]
theorem Vg {a b:ao} (aO:bG a) (ad:bG b):(rr a b).length≤1600:=by
 rw[D1 aO ad,List.length_map]
 exact xY aO ad
theorem Vh {a b:ao} (aO:bG a) (ad:bG b):∀x∈rr a b,x / b.accept.length<a.accept.length∧x%b.accept.length<b.accept.length∧x<1600:=by
 intro x U
 rw[D1 aO ad]at U
 obtain⟨y,aA,rfl⟩:=List.mem_map.1 U
 have h:=Jg aO ad y aA
 rw[(rq h).1,(rq h).2]
 refine⟨h.1,h.2,?_⟩
 have J:=h.1
 have aa:=h.2
 unfold kN
 have ar:(y.1+1)*b.accept.length≤a.accept.length*b.accept.length:=Nat.mul_le_mul_right _ J
 have aP:a.accept.length*b.accept.length≤40*40:=Nat.mul_le_mul aO.le ad.le
 rw[Nat.succ_mul]at ar
 omega
theorem Jh (A:Nat×Nat×Nat) {j:Nat} (h:j<3) (v:V):([.int .i64 (A.1:Int),.int .i64 (A.2.1:Int),.int .i64 (A.2.2:Int)]:List V).getD j v=.int .i64 (((dp A)[j]'(by rw[iH];exact h):Nat):Int):=by
 match j,h with
 | 0,_=>rfl
 | 1,_=>rfl
 | 2,_=>rfl
end Go.aB
namespace Go.aB
open Go
def iI (t:Nat×Nat×Nat) (l:Nat):Nat:=(bD t).getD l 0
theorem xZ {t:Nat×Nat×Nat} {l n:Nat} (h:tb t n) (ai:l<3):iI t l<n:=by
 match l,ai with
 | 0,_=>exact h.1
 | 1,_=>exact h.2.1
 | 2,_=>exact h.2.2
theorem AL (t:Nat×Nat×Nat) {l:Nat} (ai:l<3) (v:V):[V.int .i64 (t.1:Int),.int .i64 (t.2.1:Int),.int .i64 (t.2.2:Int)].getD l v=.int .i64 (iI t l:Nat):=by
 match l,ai with
 | 0,_=>rfl
 | 1,_=>rfl
 | 2,_=>rfl
def AM (d:ao) (l S:Nat) (m q:Nat):Nat:=if S.testBit q=true then m ||| 2^iI (d.aN q) l else m
def ql (d:ao) (l S k:Nat):Nat:=(List.range k).foldl (AM d l S) 0
def fP (d:ao) (S l:Nat):Nat:=ql d l S d.accept.length
theorem Ji (d:ao) (l S k:Nat):ql d l S (k+1)=AM d l S (ql d l S k) k:=by
 unfold ql
 rw[List.range_succ,List.foldl_append]
 rfl
theorem Jj {d:ao} (aj:d.ok) {l:Nat} (ai:l<3) (S:Nat):∀k,k≤d.accept.length→ql d l S k<2^d.accept.length:=by
 intro k
 induction k with
 | zero=>intro _;exact Nat.two_pow_pos _
 | succ k ag=>
   intro ay
   rw[Ji]
   have:=ag (by omega)
   unfold AM
   by_cases h:S.testBit k=true
   ·rw[if_pos h]
    exact Nat.or_lt_two_pow this (Nat.pow_lt_pow_right (by decide) (xZ (qk aj k (by omega)) ai))
   ·rw[if_neg h];exact this
theorem mN {d:ao} (aj:d.ok) {l:Nat} (ai:l<3) (S:Nat):fP d S l<2^d.accept.length:=Jj aj ai S _ (Nat.le_refl _)
def jr (d:ao) (S:Nat):Bool:=(List.range d.accept.length).any fun q=>bB d q&&S.testBit q
def dO (S:Nat):List Nat:=(List.range 40).filter fun q=>S.testBit q
theorem vw {S q:Nat}:q∈dO S↔q<40∧S.testBit q=true:=by
 unfold dO
 rw[List.mem_filter,List.mem_range]
theorem x0 (S:Nat):(dO S).length≤40:=by
 have:=List.length_filter_le (fun q=>S.testBit q) (List.range 40)
 rw[List.length_range]at this
 exact this
theorem Vi (S q:Nat) (aE:q<40):∃A C:List Nat,(∀x∈A,x<q)∧(∀x∈C,q<x)∧dO S=A++(if S.testBit q=true then[q]else[])++C∧dO (S ||| 2^q)=A++q::C:=by
 have aI:List.range 40=List.range q++q::(List.range (39-q)).map (fun x=>x+(q+1)):=by
  have J:40=q+(1+(39-q)):=by omega
  rw[J,List.range_add,List.range_add,List.map_append]
  have aR:q+(1+(39-q))-1-q=39-q:=by omega
  congr 1
  have a7:List.range 1=[0]:=rfl
  rw[a7,List.map_cons,List.map_nil,List.singleton_append,Nat.add_zero,List.map_map]
  congr 1
  refine List.map_congr_left ?_
  intro x _
  show q+(1+x)=x+(q+1)
  omega
 refine⟨(List.range q).filter fun x=>S.testBit x,((List.range (39-q)).map (fun x=>x+(q+1))).filter fun x=>S.testBit x,?_,?_,?_,?_⟩
 ·intro x U
  exact List.mem_range.1 (List.mem_filter.1 U).1
 ·intro x U
  obtain⟨y,_,e⟩:=List.mem_map.1 (List.mem_filter.1 U).1
  omega
 ·unfold dO
  rw[aI,List.filter_append,List.filter_cons]
  by_cases h:S.testBit q=true
  ·rw[if_pos h,if_pos h,List.append_assoc,List.singleton_append]
  ·rw[if_neg h,if_neg h,List.append_assoc,List.nil_append]
 ·unfold dO
  have ad:∀x,x≠q→(S ||| 2^q).testBit x=S.testBit x:=by
   intro x U
   rw[Nat.testBit_or,Nat.testBit_two_pow_of_ne (by omega),Bool.or_false]
  rw[aI,List.filter_append,List.filter_cons,if_pos (by rw[Nat.testBit_or,Nat.testBit_two_pow_self,Bool.or_true])]
  congr 1
  ·refine List.filter_congr ?_
   intro x U
   have:=List.mem_range.1 U
   rw[ad x (by omega)]
  ·congr 1
   refine List.filter_congr ?_
   intro x U
   obtain⟨y,_,e⟩:=List.mem_map.1 U
   rw[ad x (by omega)]
theorem Vj {α β:Type} (p:β→Bool) (f:α→β→α):∀(l:List β) (a:α),(l.filter p).foldl f a=l.foldl (fun a x=>if p x=true then f a x else a) a:=by
 intro l
 induction l with
 | nil=>intro a;rfl
 | cons x l ag=>
   intro a
   rw[List.filter_cons,List.foldl_cons]
   by_cases h:p x=true
   ·rw[if_pos h,if_pos h,List.foldl_cons,ag]
   ·rw[if_neg h,if_neg h,ag]
theorem Vk {α β:Type} (f:α→β→α):∀(l:List β) (a:α),(∀a,∀x∈l,f a x=a)→l.foldl f a=a:=by
 intro l
 induction l with
 | nil=>intro a _;rfl
 | cons x l ag=>
   intro a h
   rw[List.foldl_cons,h a x (List.mem_cons_self ..)]
   exact ag a fun a y aA=>h a y (List.mem_cons_of_mem _ aA)
theorem AN {S n q:Nat} (h:S<2^n) (ad:S.testBit q=true):q<n:=by
 by_cases aE:q<n
 ·exact aE
 ·have:S<2^q:=Nat.lt_of_lt_of_le h (Nat.pow_le_pow_right (by decide) (by omega))
  rw[Nat.testBit_lt_two_pow this]at ad
  cases ad
theorem Vl {d:ao} {S:Nat} (l:Nat) (aC:d.accept.length≤40) (a8:S<2^d.accept.length):(dO S).foldl (fun m q=>m ||| 2^iI (d.aN q) l) 0=fP d S l:=by
 unfold dO fP ql
 rw[Vj]
 have J:40=d.accept.length+(40-d.accept.length):=by omega
 rw[J,List.range_add,List.foldl_append]
 refine Vk _ _ _ ?_
 intro a x U
 obtain⟨y,_,e⟩:=List.mem_map.1 U
 by_cases ad:S.testBit x=true
 ·have:=AN a8 ad
  omega
 ·simp[ad]
theorem Vm {d:ao} {S:Nat} (aC:d.accept.length≤40) (a8:S<2^d.accept.length):(dO S).any (bB d)=jr d S:=by
 rw[Bool.eq_iff_iff]
 unfold jr
 rw[List.any_eq_true,List.any_eq_true]
 constructor
 ·rintro⟨x,U,aO⟩
  have:=vw.1 U
  exact⟨x,List.mem_range.2 (AN a8 this.2),by rw[aO,this.2];rfl⟩
 ·rintro⟨x,U,aO⟩
  have:=List.mem_range.1 U
  rw[Bool.and_eq_true]at aO
  exact⟨x,vw.2 ⟨by omega,aO.2⟩,aO.1⟩
theorem Vn {S T:Nat} (a8:S<2^40) (a6:T<2^40) (h:dO S=dO T):S=T:=by
 refine Nat.eq_of_testBit_eq ?_
 intro q
 by_cases aE:q<40
 ·have J:=vw (S:=S) (q:=q)
  have aa:=vw (S:=T) (q:=q)
  rw[h]at J
  rw[Bool.eq_iff_iff]
  constructor
  ·intro ad;exact(aa.1 (J.2 ⟨aE,ad⟩)).2
  ·intro ad;exact(J.1 (aa.2 ⟨aE,ad⟩)).2
 ·rw[Nat.testBit_lt_two_pow (Nat.lt_of_lt_of_le a8 (Nat.pow_le_pow_right (by decide) (by omega))),Nat.testBit_lt_two_pow (Nat.lt_of_lt_of_le a6 (Nat.pow_le_pow_right (by decide) (by omega)))]
theorem fdiv_pow (S q:Nat):((S:Int).fdiv (2^q))=((S / 2^q:Nat):Int):=by
 have a7:(2:Int)^q=((2^q:Nat):Int):=by simp
 rw[a7,←Int.ofNat_fdiv]
theorem Vo (S q:Nat):(S / 2^q)%2=if S.testBit q=true then 1 else 0:=by
 rw[Nat.testBit_eq_decide_div_mod_eq]
 have:=Nat.mod_two_eq_zero_or_one (S / 2^q)
 rcases this with h | h<;>rw[h]<;>simp
theorem Vp (n:Nat):((BitVec.ofInt 64 (n:Int) &&& BitVec.ofInt 64 1).toNat:Int)=((n%2:Nat):Int):=by
 have e:BitVec.ofInt 64 (n:Int)=BitVec.ofNat 64 n:=BitVec.ofInt_natCast ..
 have aR:(BitVec.ofInt 64 1)=1#64:=rfl
 rw[e,aR,BitVec.toNat_and]
 have cj:(1#64).toNat=1:=rfl
 rw[cj,Nat.and_one_is_mod,BitVec.toNat_ofNat]
 omega
theorem Vq (n m:Nat) (aC:n<2^64) (hm:m<2^64):((BitVec.ofInt 64 (n:Int) ||| BitVec.ofInt 64 (m:Int)).toNat:Int)=((n ||| m:Nat):Int):=by
 have e (k:Nat):BitVec.ofInt 64 (k:Int)=BitVec.ofNat 64 k:=BitVec.ofInt_natCast ..
 rw[e,e,BitVec.toNat_or,BitVec.toNat_ofNat,BitVec.toNat_ofNat,Nat.mod_eq_of_lt aC,Nat.mod_eq_of_lt hm]
theorem wrap_u64 (n:Nat) (h:n<2^64):IntKind.u64.wrap (n:Int)=(n:Int):=by
 show(n:Int)%18446744073709551616=n
 omega
theorem x1 (n:Nat):¬(n:Int)<0:=by omega
theorem Jk (S i:Nat) (hi:i<64):IntKind.u64.wrap ((@HAnd.hAnd (BitVec 64) (BitVec 64) (BitVec 64) (@instHAndOfAndOp (BitVec IntKind.u64.bits) (@BitVec.instAndOp IntKind.u64.bits)) (BitVec.ofInt 64 ((S:Int).fdiv (2^min i 64))) (BitVec.ofInt 64 1)).toNat:Int)=if S.testBit i=true then 1 else 0:=by
 have e:min i 64=i:=by omega
 rw[e,fdiv_pow]
 refine(congrArg IntKind.u64.wrap (Vp (S / 2^i))).trans ?_
 rw[Vo]
 by_cases h:S.testBit i=true
 ·rw[if_pos h,if_pos h];rfl
 ·rw[if_neg h,if_neg h];rfl
theorem Vr (i:Nat) (hi:i<64):IntKind.u64.wrap (1*2^min i 64)=((2^i:Nat):Int):=by
 have e:min i 64=i:=by omega
 have a7:(2:Int)^i=((2^i:Nat):Int):=by simp
 rw[e,Int.one_mul,a7]
 exact wrap_u64 _ (Nat.pow_lt_pow_right (by decide) hi)
theorem u64_or (n m:Nat) (aC:n<2^64) (hm:m<2^64):IntKind.u64.wrap ((@HOr.hOr (BitVec 64) (BitVec 64) (BitVec 64) (@instHOrOfOrOp (BitVec IntKind.u64.bits) (@BitVec.instOrOp IntKind.u64.bits)) (BitVec.ofInt 64 (n:Int)) (BitVec.ofInt 64 (m:Int))).toNat:Int)=((n ||| m:Nat):Int):=by
 refine(congrArg IntKind.u64.wrap (Vq n m aC hm)).trans ?_
 exact wrap_u64 _ (Nat.or_lt_two_pow aC hm)
end Go.aB
namespace Go.aB
open Go
theorem Jl (n:Nat) (aC:n<2^64):IntKind.u64.wrap ((@HOr.hOr (BitVec 64) (BitVec 64) (BitVec 64) (@instHOrOfOrOp (BitVec IntKind.u64.bits) (@BitVec.instOrOp IntKind.u64.bits)) (BitVec.ofInt 64 (n:Int)) (BitVec.ofInt 64 1)).toNat:Int)=((n ||| 1:Nat):Int):=u64_or n 1 aC (by decide)
theorem Jm {S n:Nat} (aC:1≤n) (h:S<2^n):S ||| 1<2^n:=Nat.or_lt_two_pow h (Nat.one_lt_two_pow (by omega))
theorem Jn {n:Nat} (h:n≤40) {S:Nat} (a8:S<2^n):S<2^64:=Nat.lt_of_lt_of_le a8 (Nat.pow_le_pow_right (by decide) (by omega))
def arS (a:ao) (x:Nat×Nat):Nat×Nat:=(x.1,if bB a x.1=true then x.2 ||| 1 else x.2)
def lj (a b:ao) (x:Nat×Nat):(Nat×Nat)×(Nat×Nat)×(Nat×Nat):=(arS a ((a.aN x.1).1,fP b x.2 0),arS a ((a.aN x.1).2.1,fP b x.2 1),arS a ((a.aN x.1).2.2,fP b x.2 2))
def ru (b:ao) (x:Nat×Nat):Bool:=jr b x.2
def oD (a b:ao) (x:Nat×Nat):Prop:=x.1<a.accept.length∧x.2<2^b.accept.length
theorem tg {a b:ao} (ad:bG b) {x:Nat×Nat} (h:oD a b x):oD a b (arS a x):=by
 refine⟨h.1,?_⟩
 show(if bB a x.1=true then x.2 ||| 1 else x.2)<_
 by_cases ah:bB a x.1=true
 ·rw[if_pos ah];exact Jm ad.pos h.2
 ·rw[if_neg ah];exact h.2
theorem x2 {a b:ao} (aO:bG a) (ad:bG b) {x:Nat×Nat} (h:oD a b x):oD a b (lj a b x).1∧oD a b (lj a b x).2.1∧oD a b (lj a b x).2.2:=by
 have aC:=qk aO.ok x.1 h.1
 exact⟨tg ad ⟨aC.1,mN ad.ok (by decide) _⟩,tg ad ⟨aC.2.1,mN ad.ok (by decide) _⟩,tg ad ⟨aC.2.2,mN ad.ok (by decide) _⟩⟩
theorem Vs (a b:ao) (x:Nat×Nat) {i:Nat} (hi:i<3):(bD (lj a b x))[i]'(by rw[kj];exact hi)=arS a (iI (a.aN x.1) i,fP b x.2 i):=by
 match i,hi with
 | 0,_=>rfl
 | 1,_=>rfl
 | 2,_=>rfl
def oE (a b:ao):List (Nat×Nat):=eX (lj a b) 400 (arS a (0,0))
def oF (a b:ao):Option ao:=if(oE a b).length≤400 then fw (er (lj a b) (ru b) (oE a b))else none
def nA (d:ao) (M:Nat):Nat:=if jr d M=true then M ||| 1 else M
def nB (d:ao) (x:Nat×Nat):(Nat×Nat)×(Nat×Nat)×(Nat×Nat):=((0,nA d (fP d x.2 0)),(0,nA d (fP d x.2 1)),(0,nA d (fP d x.2 2)))
def rv (d:ao) (x:Nat×Nat):Bool:=x.1==1||jr d x.2
def nC (d:ao) (x:Nat×Nat):Prop:=x.1<2∧x.2<2^d.accept.length
theorem vx {d:ao} (aw:bG d) {M:Nat} (h:M<2^d.accept.length):nA d M<2^d.accept.length:=by
 unfold nA
 by_cases ah:jr d M=true
 ·rw[if_pos ah];exact Jm aw.pos h
 ·rw[if_neg ah];exact h
theorem AO {d:ao} (aw:bG d) {x:Nat×Nat} (h:nC d x):nC d (nB d x).1∧nC d (nB d x).2.1∧nC d (nB d x).2.2:=
 ⟨⟨by show 0<2;decide,vx aw (mN aw.ok (by decide) _)⟩,⟨by show 0<2;decide,vx aw (mN aw.ok (by decide) _)⟩,⟨by show 0<2;decide,vx aw (mN aw.ok (by decide) _)⟩⟩
theorem Vt (d:ao) (x:Nat×Nat) {i:Nat} (hi:i<3):(bD (nB d x))[i]'(by rw[kj];exact hi)=(0,nA d (fP d x.2 i)):=by
 match i,hi with
 | 0,_=>rfl
 | 1,_=>rfl
 | 2,_=>rfl
def mO (d:ao):List (Nat×Nat):=eX (nB d) 400 (1,1)
def oG (d:ao):Option ao:=if(mO d).length≤400 then fw (er (nB d) (rv d) (mO d))else none
end Go.aB
namespace Go.aB
open Go
section
variable {α β:Type} [DecidableEq α] [DecidableEq β]
theorem Vu {l:List α} {x:α} {i:Nat} (h:i<l.length) (aC:x∉l.take i) (e:l[i]=x):cm l x=i:=by
 have aw:l=l.take i++x::l.drop (i+1):=by
  rw[←e,←List.drop_eq_getElem_cons h,List.take_append_drop]
 unfold cm
 rw[aw,List.idxOf_append,if_neg aC,List.idxOf_cons,beq_self_eq_true,cond_true,List.length_take]
 omega
theorem Jo {f:α→β} {Q:α→Prop} (aJ:∀x y,Q x→Q y→f x=f y→x=y) {g:α→α×α×α} {g':β→β×β×β} {acc:α→Bool} {Jp:β→Bool} {L:List α} (cK:∀x∈L,Q x) (e5:∀x,Q x→Q (g x).1∧Q (g x).2.1∧Q (g x).2.2) (av:∀x,Q x→g' (f x)=(f (g x).1,f (g x).2.1,f (g x).2.2)) (aO:∀x,Q x→Jp (f x)=acc x):er g' Jp (L.map f)=er g acc L:=by
 unfold er
 congr 1
 ·rw[List.map_map]
  exact List.map_congr_left fun x U=>aO x (cK x U)
 ·rw[List.map_map]
  refine List.map_congr_left fun x U=>?_
  have U:=cK x U
  have aE:=e5 x U
  show kJ (L.map f) (g' (f x))=kJ L (g x)
  rw[av x U]
  unfold kJ
  rw[vv aJ cK aE.1,vv aJ cK aE.2.1,vv aJ cK aE.2.2]
theorem Jq {f:α→β} {Q:α→Prop} (aJ:∀x y,Q x→Q y→f x=f y→x=y) {g:α→α×α×α} {g':β→β×β×β} (e5:∀x,Q x→Q (g x).1∧Q (g x).2.1∧Q (g x).2.2) (av:∀x,Q x→g' (f x)=(f (g x).1,f (g x).2.1,f (g x).2.2)) (most:Nat) {s:α} (al:Q s):eX g' most (f s)=(eX g most s).map f:=
 D0 aJ e5 av (most+1) [s] 0 (by simpa using al)
theorem Jr {Q:α→Prop} {g:α→α×α×α} (e5:∀x,Q x→Q (g x).1∧Q (g x).2.1∧Q (g x).2.2) (most:Nat) {s:α} (al:Q s):∀x∈eX g most s,Q x:=
 (DX (f:=g) (Q:=Q) e5 (most+1) [s] 0 (by simp) (by simpa using al)).2
end
abbrev fh:=Nat×Nat×Bool
def gy (y:fh):V:=.agg [aQ y.1,.slc false 1 ((dO y.2.1).map aQ),B y.2.2]
def nD (x:Nat×Nat):fh:=(x.1,x.2,false)
def gS (a b:ao) (y:fh):fh×fh×fh:=(nD (lj a b (y.1,y.2.1)).1,nD (lj a b (y.1,y.2.1)).2.1,nD (lj a b (y.1,y.2.1)).2.2)
def oH (b:ao) (y:fh):Bool:=jr b y.2.1
theorem Js (x y:Nat×Nat) (h:nD x=nD y):x=y:=by
 have J:x.1=y.1:=congrArg (fun z:fh=>z.1) h
 have aa:x.2=y.2:=congrArg (fun z:fh=>z.2.1) h
 exact Prod.ext J aa
theorem Vv (a b:ao) (y:fh) {i:Nat} (hi:i<3):(bD (gS a b y))[i]'(by rw[kj];exact hi)=nD (arS a (iI (a.aN y.1) i,fP b y.2.1 i)):=by
 match i,hi with
 | 0,_=>rfl
 | 1,_=>rfl
 | 2,_=>rfl
def lk (a b:ao):List fh:=eX (gS a b) 400 (nD (arS a (0,0)))
theorem Jt {a b:ao} (aO:bG a) (ad:bG b):lk a b=(oE a b).map nD:=
 Jq (Q:=oD a b) (fun x y _ _ h=>Js x y h) (fun x U=>x2 aO ad U) (fun x U=>rfl) 400 (tg ad ⟨aO.pos,Nat.two_pow_pos _⟩)
theorem Vw {a b:ao} (aO:bG a) (ad:bG b):er (gS a b) (oH b) (lk a b)=er (lj a b) (ru b) (oE a b):=by
 rw[Jt aO ad]
 exact Jo (Q:=oD a b) (fun x y _ _ h=>Js x y h) (Jr (fun x U=>x2 aO ad U) 400 (tg ad ⟨aO.pos,Nat.two_pow_pos _⟩)) (fun x U=>x2 aO ad U) (fun x U=>rfl) (fun x U=>rfl)
theorem Vx {a b:ao} (aO:bG a) (ad:bG b):oF a b=if(lk a b).length≤400 then fw (er (gS a b) (oH b) (lk a b))else none:=by
 rw[Vw aO ad]
 unfold oF
 rw[Jt aO ad,List.length_map]
def th (a b:ao) (y:fh):Prop:=y.1<a.accept.length∧y.2.1<2^b.accept.length
theorem Vy {a b:ao} (aO:bG a) (ad:bG b) (y:fh) (h:th a b y):th a b (gS a b y).1∧th a b (gS a b y).2.1∧th a b (gS a b y).2.2:=x2 (x:=(y.1,y.2.1)) aO ad h
def vy (x:Nat×Nat):fh:=(0,x.2,x.1==1)
def gT (d:ao) (y:fh):fh×fh×fh:=((0,nA d (fP d y.2.1 0),false),(0,nA d (fP d y.2.1 1),false),(0,nA d (fP d y.2.1 2),false))
def oI (d:ao) (y:fh):Bool:=y.2.2||jr d y.2.1
theorem Ju {d:ao} (x y:Nat×Nat) (U:nC d x) (aA:nC d y) (h:vy x=vy y):x=y:=by
 have J:(x.1==1)=(y.1==1):=congrArg (fun z:fh=>z.2.2) h
 have aa:x.2=y.2:=congrArg (fun z:fh=>z.2.1) h
 have aT:=U.1
 have a2:=aA.1
 refine Prod.ext ?_ aa
 rw[Bool.eq_iff_iff,beq_iff_eq,beq_iff_eq]at J
 omega
theorem Vz (d:ao) (y:fh) {i:Nat} (hi:i<3):(bD (gT d y))[i]'(by rw[kj];exact hi)=(0,nA d (fP d y.2.1 i),false):=by
 match i,hi with
 | 0,_=>rfl
 | 1,_=>rfl
 | 2,_=>rfl
def kO (d:ao):List fh:=eX (gT d) 400 (0,1,true)
theorem D3 {d:ao} (aw:bG d):nC d (1,1):=⟨by show 1<2;decide,Nat.one_lt_two_pow (by have:=aw.pos;omega)⟩
theorem Jv {d:ao} (aw:bG d):kO d=(mO d).map vy:=by
 have e:((0,1,true):fh)=vy (1,1):=rfl
 unfold kO mO
 rw[e]
 exact Jq (Q:=nC d) (f:=vy) Ju (fun x U=>AO aw U) (fun x U=>rfl) 400 (D3 aw)
theorem VA {d:ao} (aw:bG d):er (gT d) (oI d) (kO d)=er (nB d) (rv d) (mO d):=by
 rw[Jv aw]
 exact Jo (Q:=nC d) (f:=vy) Ju (by unfold mO;exact Jr (fun x U=>AO aw U) 400 (D3 aw)) (fun x U=>AO aw U) (fun x U=>rfl) (fun x U=>rfl)
theorem VB {d:ao} (aw:bG d):oG d=if(kO d).length≤400 then fw (er (gT d) (oI d) (kO d))else none:=by
 rw[VA aw]
 unfold oG
 rw[Jv aw,List.length_map]
def ti (d:ao) (y:fh):Prop:=y.2.1<2^d.accept.length
theorem VC {d:ao} (aw:bG d) (y:fh) (h:ti d y):ti d (gT d y).1∧ti d (gT d y).2.1∧ti d (gT d y).2.2:=
 ⟨vx aw (mN aw.ok (by decide) _),vx aw (mN aw.ok (by decide) _),vx aw (mN aw.ok (by decide) _)⟩
end Go.aB
namespace Go.aB
open Go
def dY (d:ao):ao:=⟨d.accept.map (!·),d.next⟩
theorem D4 {d:ao} (h:d.ok):(dY d).ok:=by
 refine⟨by simp[dY,h.1],?_⟩
 intro t aK
 have:=h.2 t aK
 simpa[dY]using this
theorem AP {d:ao} {q:Nat} (h:q<d.accept.length):bB (dY d) q=!bB d q:=by
 unfold bB dY
 rw[List.getD_eq_getElem?_getD,List.getD_eq_getElem?_getD,List.getElem?_map,List.getElem?_eq_getElem h]
 rfl
theorem Jw {d:ao} (aj:d.ok):∀k p q,p<d.accept.length→q<d.accept.length→(e9 (dY d) k p q↔e9 d k p q):=by
 intro k
 induction k with
 | zero=>
   intro p q arM aE
   show bB (dY d) p=bB (dY d) q↔bB d p=bB d q
   rw[AP arM,AP aE]
   cases bB d p<;>cases bB d q<;>simp
 | succ k ag=>
   intro p q arM aE
   have td:=ao.ie aj arM
   have te:=ao.ie aj aE
   show(e9 (dY d) k p q∧e9 (dY d) k (d.aN p).1 (d.aN q).1∧e9 (dY d) k (d.aN p).2.1 (d.aN q).2.1∧e9 (dY d) k (d.aN p).2.2 (d.aN q).2.2)↔_
   rw[ag p q arM aE,ag _ _ td.1 te.1,ag _ _ td.2.1 te.2.1,ag _ _ td.2.2 te.2.2]
   rfl
theorem Jx (d:ao) (s:Nat):order (dY d) s=order d s:=by
 unfold order
 have:(dY d).accept.length=d.accept.length:=by simp[dY]
 rw[this]
 rfl
theorem VD {d:ao} (aj:d.ok) {s:Nat} (al:s<d.accept.length):cF (dY d) s=dY (cF d s):=by
 have aL:=(rl aj al).2
 have ay:DS (dY d) s (ba (rounds d (d.accept.length+1) (dW d))):=by
  refine⟨fun x y U aA=>?_⟩
  rw[Jx]at U aA
  rw[xQ aj (by omega) (aL x U) (aL y aA)]
  constructor
  ·intro h k;exact(Jw aj k x y (aL x U) (aL y aA)).2 (h k)
  ·intro h k;exact(Jw aj k x y (aL x U) (aL y aA)).1 (h k)
 have ai:(dY d).accept.length=d.accept.length:=by simp[dY]
 rw[←DT (D4 aj) (by rw[ai];exact al) ay]
 unfold cF quot
 rw[Jx]
 generalize ba (rounds d (d.accept.length+1) (dW d))=c
 have hm:∀x∈bX c (order d s),x<d.accept.length:=fun x U=>aL x (ld U)
 generalize bX c (order d s)=UR at hm
 unfold pC
 show(⟨_,_⟩:ao)=⟨_,_⟩
 congr 1
 dsimp only
 rw[List.map_map]
 exact List.map_congr_left fun x U=>AP (hm x U)
theorem x3 {d:ao} (h:bG d):bG (dY d):=⟨D4 h.ok,by have:=h.pos;simpa[dY]using this,by have:=h.le;simpa[dY]using this⟩
theorem oJ {d:ao} (h:bG d) {s:Nat} (al:s<d.accept.length):bG (cF d s):=⟨(xX h.ok al).1,(xX h.ok al).2,Nat.le_trans (Jc h.ok al) h.le⟩
def mP (l:List Bool) (i:Nat):List V:=((l.take i).map fun b=>B (!b))++(l.drop i).map B
theorem VE (l:List Bool):mP l 0=l.map B:=by simp[mP]
theorem VF (l:List Bool) (i:Nat) (h:i≤l.length):(mP l i).length=l.length:=by simp[mP];omega
theorem VG (l:List Bool):mP l l.length=(l.map (!·)).map B:=by simp[mP]
theorem VH {l:List Bool} {i:Nat} (h:i<l.length) (v:V):(mP l i).getD i v=B l[i]:=by
 unfold mP
 have ai:((l.take i).map fun b=>B (!b)).length=i:=by simp;omega
 rw[List.getD_eq_getElem?_getD,List.getElem?_append_right (by rw[ai];exact Nat.le_refl _),ai,Nat.sub_self,List.drop_eq_getElem_cons h]
 rfl
theorem VI {l:List Bool} {i:Nat} (h:i<l.length):(mP l i).set i (B !l[i])=mP l (i+1):=by
 unfold mP
 have ai:((l.take i).map fun b=>B (!b)).length=i:=by simp;omega
 rw[List.set_append_right _ _ (by rw[ai];exact Nat.le_refl _),ai,Nat.sub_self,List.drop_eq_getElem_cons h,List.map_cons,List.set_cons_zero,nz h,List.map_append,List.append_assoc]
 rfl
def D5 (b:Bool):V:=B (!b)
end Go.aB
namespace Go.aB
open Go
theorem Jy {p:Int→Bool} {s:ByteArray}:∀(n i:Nat),s.size-i≤n→kG p s i=true→∀j:Nat,i≤j→j<s.size→p (bC s j)=true:=by
 intro n
 induction n with
 | zero=>intro i h _ j J aa;omega
 | succ n ag=>
   intro i h aO j J aa
   rw[An p s (by omega),Bool.and_eq_true]at aO
   by_cases e:j=i
   ·subst e;exact aO.1
   ·exact ag (i+1) (by omega) aO.2 j (by omega) aa
theorem Jz {s:ByteArray} (h:isWord s=true) {i:Nat} (hi:i<s.size):iD (bC s i)=0∨iD (bC s i)=1∨iD (bC s i)=2:=by
 unfold isWord at h
 rw[Bool.and_eq_true]at h
 have J:=Jy _ 0 (Nat.le_refl _) h.2 i (Nat.zero_le _) hi
 unfold gL at J
 have J:=of_decide_eq_true J
 unfold iD at J⊢
 repeat' split at J
 all_goals first
  | (exfalso;omega)
  | simp_all
theorem D6 {s:ByteArray} (h:isWord s=true):s.size≤30:=by
 unfold isWord at h
 rw[Bool.and_eq_true]at h
 exact of_decide_eq_true h.1
def ll (s:ByteArray) (q:Nat) (k:Int):Nat:=if q<s.size∧iD (bC s q)=k then q+1 else s.size+1
def D7 (s:ByteArray) (q:Nat):Nat×Nat×Nat:=(ll s q 0,ll s q 1,ll s q 2)
def kl (s:ByteArray):ao:=⟨(List.range (s.size+2)).map fun q=>(q==s.size),(List.range (s.size+2)).map (D7 s)⟩
def tj (s:ByteArray) (q:Nat):V:=.bool ((q:Int)==(s.size:Int))
def tk (s:ByteArray) (q:Nat):V:=bu (D7 s q)
theorem JA (s:ByteArray) (n:Nat):(List.range n).map (tj s)=((List.range n).map fun q=>(q==s.size)).map B:=by
 rw[List.map_map]
 refine List.map_congr_left fun q _=>?_
 show V.bool _=V.bool _
 rw[kh]
theorem JB (s:ByteArray) (n:Nat):(List.range n).map (tk s)=((List.range n).map (D7 s)).map bu:=by rw[List.map_map];rfl
theorem D8 (s:ByteArray) (q:Nat) (k:Int):ll s q k<s.size+2:=by
 unfold ll
 split<;>omega
theorem vz (s:ByteArray):(kl s).ok∧(kl s).accept.length=s.size+2:=by
 refine⟨⟨by simp[kl],?_⟩,by simp[kl]⟩
 intro t aK
 obtain⟨q,_,rfl⟩:=List.mem_map.1 aK
 simp only[kl,List.length_map,List.length_range]
 exact⟨D8 s q 0,D8 s q 1,D8 s q 2⟩
theorem VJ {s:ByteArray} (h:s.size≤30):bG (kl s):=⟨(vz s).1,by rw[(vz s).2];omega,by rw[(vz s).2];omega⟩
def ao.dC (d:ao):V:=.agg [.slc true 1 (d.accept.map B),.slc true 1 (d.next.map bu)]
end Go.aB
namespace Go.aB
open Go
def JC:ao:=⟨[false,true,false],[(1,1,1),(2,2,2),(2,2,2)]⟩
def nE:ao:=⟨[false],[(0,0,0)]⟩
def tl (k:Int) (s:ByteArray):ao:=if k=2 then cF (kl ByteArray.empty) 0 else if k=3 then cF (kl s) 0 else if k=4 then JC else nE
def pF (k:Int) (s:ByteArray):List (Option ao)→Option ao
 | []=>some (tl k s)
 | [a]=>a.bind fun d=>if k=9 then some (dY (cF d 0))else oG d
 | a::b::_=>a.bind fun d=>b.bind fun e=>if k=5 then oF d e else fw (gQ k d e)
def gz (r:aU):Option ao:=pF r.kind r.dV (r.args.attach.map fun x=>gz x.1)
 termination_by SizeOf.sizeOf r
 decreasing_by exact aU.lt _ x.2
theorem D9 (r:aU):gz r=pF r.kind r.dV (r.args.map gz):=by rw[gz,List.attach_map_val (f:=gz)]
theorem VK:bG JC:=⟨⟨rfl,by decide⟩,by decide,by decide⟩
theorem vA:bG nE:=⟨⟨rfl,by decide⟩,by decide,by decide⟩
theorem Ea:isWord ByteArray.empty=true:=by
 unfold isWord
 rw[kG]
 rfl
theorem JD {s:ByteArray} (h:isWord s=true):bG (cF (kl s) 0):=oJ (VJ (D6 h)) (by rw[(vz s).2];omega)
theorem VL {k:Int} {s:ByteArray} (h:k=3→isWord s=true):bG (tl k s):=by
 unfold tl
 by_cases aa:k=2
 ·rw[if_pos aa];exact JD Ea
 rw[if_neg aa]
 by_cases ar:k=3
 ·rw[if_pos ar];exact JD (h ar)
 rw[if_neg ar]
 by_cases aP:k=4
 ·rw[if_pos aP];exact VK
 ·rw[if_neg aP];exact vA
theorem VM {a b e:ao} (aO:bG a) (ad:bG b) (h:oF a b=some e):bG e:=by
 unfold oF at h
 by_cases ai:(oE a b).length≤400
 ·rw[if_pos ai]at h
  exact AI (kk ai).1 (kk ai).2.1 h
 ·rw[if_neg ai]at h;cases h
theorem VN {d e:ao} (aw:bG d) (h:oG d=some e):bG e:=by
 unfold oG at h
 by_cases ai:(mO d).length≤400
 ·rw[if_pos ai]at h
  exact AI (kk ai).1 (kk ai).2.1 h
 ·rw[if_neg ai]at h;cases h
theorem AQ {r:aU} (h:r.gN=true):(∀x∈r.args,x.gN=true)∧gM r=true:=by
 rw[aU.DA,Bool.and_eq_true,List.all_eq_true]at h
 exact⟨fun x U=>h.1 _ (List.mem_map_of_mem U),h.2⟩
theorem Eb {r:aU} (h:gM r=true) (k:r.kind=3):isWord r.dV=true:=by
 unfold gM at h
 rw[if_pos k,Bool.and_eq_true,Bool.and_eq_true]at h
 exact h.2.2
theorem VO {r:aU} (h:gM r=true):(r.args.length:Int)=jK r.kind:=by
 unfold gM at h
 rw[Bool.and_eq_true,beq_iff_eq]at h
 exact h.1
theorem ry (r:aU) (av:r.gN=true) {e:ao} (h:gz r=some e):bG e:=by
 obtain⟨J,aa⟩:=AQ av
 have ag:∀x∈r.args,∀d,gz x=some d→bG d:=fun x U d aw=>ry x (J x U) aw
 rw[D9]at h
 match aO:r.args,h with
 | [],h=>
   rw[List.map_nil]at h
   cases h
   exact VL (Eb aa)
 | [x],h=>
   rw[List.map_cons,List.map_nil]at h
   have U:=ag x (by rw[aO];exact List.mem_cons_self ..)
   unfold pF at h
   cases ah:gz x with
   | none=>rw[ah]at h;cases h
   | some d=>
     rw[ah]at h
     change (if r.kind=9 then some (dY (cF d 0))else oG d)=some e at h
     have aw:=U _ ah
     by_cases zw:r.kind=9
     ·rw[if_pos zw]at h
      cases h
      exact x3 (oJ aw aw.pos)
     ·rw[if_neg zw]at h
      exact VN aw h
 | x::y::l,h=>
   rw[List.map_cons,List.map_cons]at h
   have U:=ag x (by rw[aO];exact List.mem_cons_self ..)
   have aA:=ag y (by rw[aO];exact List.mem_cons_of_mem _ (List.mem_cons_self ..))
   unfold pF at h
   cases ah:gz x with
   | none=>rw[ah]at h;cases h
   | some d=>
     cases ey:gz y with
     | none=>rw[ah,ey]at h;cases h
     | some f=>
       rw[ah,ey]at h
       change (if r.kind=5 then oF d f else fw (gQ r.kind d f))=some e at h
       have aw:=U _ ah
       have aJ:=aA _ ey
       by_cases ek:r.kind=5
       ·rw[if_pos ek]at h
        exact VM aw aJ h
       ·rw[if_neg ek]at h
        exact AI (rn aw aJ).1 (rn aw aJ).2.1 h
 termination_by SizeOf.sizeOf r
 decreasing_by exact aU.lt _ U
theorem JE {r:aU} (h:r.gN=true):((r.kind=1∨r.kind=2∨r.kind=3∨r.kind=4)∧r.args=[])∨((r.kind=8∨r.kind=9)∧∃x,r.args=[x])∨((r.kind=5∨r.kind=6∨r.kind=7)∧∃x y,r.args=[x,y]):=by
 have ai:=VO (AQ h).2
 unfold jK at ai
 by_cases J:r.kind=1∨r.kind=2∨r.kind=3∨r.kind=4
 ·rw[if_pos J]at ai
  exact Or.inl ⟨J,List.eq_nil_of_length_eq_zero (by omega)⟩
 rw[if_neg J]at ai
 by_cases aa:r.kind=8∨r.kind=9
 ·rw[if_pos aa]at ai
  refine Or.inr (Or.inl ⟨aa,?_⟩)
  match aO:r.args,ai with
  | [],ai=>simp at ai
  | [x],_=>exact⟨x,rfl⟩
  | x::y::l,ai=>simp at ai;omega
 rw[if_neg aa]at ai
 by_cases ar:r.kind=5∨r.kind=6∨r.kind=7
 ·rw[if_pos ar]at ai
  refine Or.inr (Or.inr ⟨ar,?_⟩)
  match aO:r.args,ai with
  | [],ai=>simp at ai
  | [x],ai=>simp at ai
  | [x,y],_=>exact⟨x,y,rfl⟩
  | x::y::z::l,ai=>simp at ai;omega
 ·rw[if_neg ar]at ai
  omega
end Go.aB
namespace Go.aB
open Go
def dx (s:ByteArray):Prop:=∀i:Nat,i<s.size→gL (bC s i)=true
theorem rz {s:ByteArray} (h:isWord s=true):dx s:=by
 unfold isWord at h
 rw[Bool.and_eq_true]at h
 exact fun i hi=>Jy _ 0 (Nat.le_refl _) h.2 i (Nat.zero_le _) hi
theorem JF {s:ByteArray} (h:isWord s=true):s.size≤30:=by
 unfold isWord at h
 rw[Bool.and_eq_true]at h
 exact of_decide_eq_true h.1
theorem AR {c:Int} (h:gL c=true):c=97∨c=98∨c=99:=by
 unfold gL iD at h
 have:=of_decide_eq_true h
 repeat' split at this
 all_goals omega
theorem JG (a b:ByteArray) {i:Nat} (h:i<a.size):bC (a++b) (i:Int)=bC a (i:Int):=by
 have aa:i<(a++b).size:=by rw[ByteArray.size_append];omega
 unfold bC
 simp only[Int.toNat_natCast,h,aa,dif_pos]
 rw[ByteArray.getElem_append_left]
theorem JH (a b:ByteArray) {i:Nat} (h:a.size≤i) (aZ:i<(a++b).size):bC (a++b) (i:Int)=bC b ((i-a.size:Nat):Int):=by
 have aa:i-a.size<b.size:=by rw[ByteArray.size_append]at aZ;omega
 unfold bC
 simp only[Int.toNat_natCast,aZ,aa,dif_pos]
 rw[ByteArray.getElem_append_right h]
theorem dx.app {a b:ByteArray} (aO:dx a) (ad:dx b):dx (a++b):=by
 intro i hi
 by_cases k:i<a.size
 ·rw[JG a b k];exact aO i k
 ·rw[JH a b (by omega) hi]
  exact ad _ (by rw[ByteArray.size_append]at hi;omega)
theorem dx.nil:dx ⟨#[]⟩:=fun i hi=>absurd hi (Nat.not_lt_zero _)
theorem dx.one {s:ByteArray} (h:dx s) {i:Nat} (hi:i<s.size):dx (one s i):=by
 intro j au
 rw[Ap s i hi]at au
 obtain rfl:j=0:=by omega
 have:=TV s i (i+1) 0 (by omega) (by omega)
 unfold Go.aB.one
 rw[this]
 exact h _ hi
def arV (m:cD) (s:ByteArray) (i:Nat):ByteArray:=if bC s i=97 then m.a else if bC s i=98 then m.b else if bC s i=99 then m.c else one s i
def kP (m:cD) (s:ByteArray):ByteArray:=k6 (arV m s) s 0 ⟨#[]⟩
theorem JI (m:cD) (s:ByteArray):(kP m s).size≤1048576:=T4 _ _ _ 0 _ (Nat.le_refl _) (by decide)
theorem VP {fF:Nat→ByteArray} {s:ByteArray} (ad:∀i,i<s.size→dx (fF i)):∀(n i:Nat) (out:ByteArray),s.size-i≤n→dx out→dx (k6 fF s i out):=by
 intro n
 induction n with
 | zero=>intro i out h aj;rw[rf (by omega)];exact aj
 | succ n ag=>
   intro i out h aj
   by_cases k:i<s.size
   ·rw[vi k]
    split
    ·exact dx.nil
    ·exact ag _ _ (by omega) (aj.app (ad i k))
   ·rw[rf k];exact aj
theorem Ec {s:ByteArray} (h:small s=true):dx s∧s.size≤3:=by
 unfold small at h
 rw[Bool.and_eq_true]at h
 exact⟨rz h.1,of_decide_eq_true h.2⟩
theorem vB {m:cD} (h:hD m=true):(dx m.a∧m.a.size≤3)∧(dx m.b∧m.b.size≤3)∧(dx m.c∧m.c.size≤3):=by
 unfold hD at h
 rw[Bool.and_eq_true,Bool.and_eq_true]at h
 exact⟨Ec h.1,Ec h.2.1,Ec h.2.2⟩
theorem Ed {m:cD} (hm:hD m=true) {s:ByteArray} (h:dx s):dx (kP m s):=by
 obtain⟨⟨aO,_⟩,⟨ad,_⟩,⟨ah,_⟩⟩:=vB hm
 refine VP (fun i hi=>?_) _ 0 _ (Nat.le_refl _) dx.nil
 unfold arV
 split
 ·exact aO
 split
 ·exact ad
 split
 ·exact ah
 exact h.one hi
def fi (t:Nat×Nat×Nat) (c:Int):Nat:=if c=97 then t.1 else if c=98 then t.2.1 else t.2.2
def walk (d:ao) (s:ByteArray) (q i:Nat):Nat:=if i<s.size then walk d s (fi (d.aN q) (bC s i)) (i+1)else q
 termination_by s.size-i
theorem iX {d:ao} {s:ByteArray} {q i:Nat} (h:i<s.size):walk d s q i=walk d s (fi (d.aN q) (bC s i)) (i+1):=by rw[walk,if_pos h]
theorem fx {d:ao} {s:ByteArray} {q i:Nat} (h:¬i<s.size):walk d s q i=q:=by rw[walk,if_neg h]
theorem x4 {d:ao} (aj:d.ok) {q:Nat} (h:q<d.accept.length) (c:Int):fi (d.aN q) c<d.accept.length:=by
 obtain⟨J,aa,ar⟩:=ao.ie aj h
 unfold fi
 split
 ·exact J
 split
 ·exact aa
 ·exact ar
theorem mQ {d:ao} (aj:d.ok) (s:ByteArray):∀(n q i:Nat),s.size-i≤n→q<d.accept.length→walk d s q i<d.accept.length:=by
 intro n
 induction n with
 | zero=>intro q i h aE;rw[fx (by omega)];exact aE
 | succ n ag=>
   intro q i h aE
   by_cases k:i<s.size
   ·rw[iX k];exact ag _ _ (by omega) (x4 aj aE _)
   ·rw[fx k];exact aE
def et (d:ao) (s:ByteArray):Bool:=d.accept.getD (walk d s 0 0) false
end Go.aB
namespace Go.aB
open Go
def VQ (k:Int) (s:ByteArray):List ByteArray→ByteArray
 | []=>if k=1 then⟨#[48]⟩else if k=2 then⟨#[49]⟩else if k=3 then s else⟨#[46]⟩
 | [a]=>(if k=8 then⟨#[42]⟩else⟨#[33]⟩)++a
 | a::b::_=>((⟨#[40]⟩++a)++(if k=6 then⟨#[124]⟩else if k=7 then⟨#[38]⟩else⟨#[]⟩))++b++⟨#[41]⟩
def JJ (r:aU):ByteArray:=VQ r.kind r.dV (r.args.attach.map fun x=>JJ x.1)
 termination_by SizeOf.sizeOf r
 decreasing_by exact aU.lt _ x.2
def aq6 (r:aU):ByteArray:=if jL r=true then JJ r else⟨#[]⟩
def dash (s:ByteArray):ByteArray:=if s.size=0 then⟨#[45]⟩else s
end Go.aB
namespace Go.aB
open Go
def oK (r:List Int):Nat×Nat×Nat:=((r.getD 0 0).toNat,(r.getD 1 0).toNat,(r.getD 2 0).toNat)
def eQ.gx (x:eQ):ao:=⟨x.accept,x.next.map oK⟩
theorem JK {n:Nat} {r:List Int} (h:oA n r=true):r=[((oK r).1:Int),(oK r).2.1,(oK r).2.2]∧(oK r).1<n∧(oK r).2.1<n∧(oK r).2.2<n:=by
 unfold oA at h
 rw[Bool.and_eq_true,List.all_eq_true]at h
 obtain⟨J,aa⟩:=h
 have ar:=eq_of_beq J
 match r,ar,aa with
 | [a,b,c],_,aa=>
   have aO:=aa a (by simp)
   have ad:=aa b (by simp)
   have ah:=aa c (by simp)
   rw[Bool.and_eq_true,decide_eq_true_eq,decide_eq_true_eq]at aO ad ah
   unfold oK
   simp only[List.getD_cons_zero,List.getD_cons_succ]
   have kn:((a.toNat:Nat):Int)=a:=Int.toNat_of_nonneg aO.1
   have VR:((b.toNat:Nat):Int)=b:=Int.toNat_of_nonneg ad.1
   have D2:((c.toNat:Nat):Int)=c:=Int.toNat_of_nonneg ah.1
   rw[kn,VR,D2]
   exact⟨rfl,by omega,by omega,by omega⟩
 | [],ar,_=>simp at ar
 | [_],ar,_=>simp at ar
 | [_,_],ar,_=>simp at ar
 | _::_::_::_::_,ar,_=>simp at ar;omega
theorem vC {x:eQ} (h:iR x=true):x=x.gx.cU∧bG x.gx:=by
 unfold iR at h
 rw[Bool.and_eq_true,Bool.and_eq_true,Bool.and_eq_true,decide_eq_true_eq,decide_eq_true_eq,List.all_eq_true]at h
 obtain⟨⟨J,aa⟩,ar,aP⟩:=h
 have ar:=eq_of_beq ar
 refine⟨?_,⟨?_,?_⟩,?_,?_⟩
 ·obtain⟨A,N⟩:=x
  unfold eQ.gx ao.cU
  dsimp only at*
  rw[List.map_map]
  congr 1
  have:∀r∈N,id r=((fun t:Nat×Nat×Nat=>[(t.1:Int),t.2.1,t.2.2])∘oK) r:=fun r aI=>(JK (aP r aI)).1
  rw[←List.map_congr_left this,List.map_id]
 ·unfold eQ.gx
  dsimp only
  rw[List.length_map]
  omega
 ·intro t aK
  unfold eQ.gx at aK⊢
  dsimp only at aK⊢
  obtain⟨r,aI,rfl⟩:=List.mem_map.1 aK
  exact(JK (aP r aI)).2
 ·show 1≤x.accept.length;omega
 ·show x.accept.length≤40;omega
def rA (d:ao) (s:ByteArray) (q:Nat):Bool:=d.accept.getD (walk d s q 0) false
def hX (d:ao) (s:ByteArray):ao:=⟨(List.range d.accept.length).map (rA d s),d.next⟩
theorem x5 {d:ao} (h:d.ok) (s:ByteArray):(hX d s).ok:=by
 unfold hX ao.ok
 dsimp only
 rw[List.length_map,List.length_range]
 exact h
theorem qm (d:ao) (s:ByteArray):(hX d s).accept.length=d.accept.length:=by
 unfold hX
 dsimp only
 rw[List.length_map,List.length_range]
def ma (d:ao) (s:ByteArray) (i:Nat):List Bool:=(List.range d.accept.length).map fun q=>if q<i then rA d s q else d.accept.getD q false
theorem x6 (d:ao) (s:ByteArray) (i:Nat):(ma d s i).length=d.accept.length:=by unfold ma;rw[List.length_map,List.length_range]
theorem Ee (d:ao) (s:ByteArray) (i j:Nat) (h:j<(ma d s i).length):(ma d s i)[j]=if j<i then rA d s j else d.accept.getD j false:=by
 simp only[ma,List.getElem_map,List.getElem_range]
theorem VS (d:ao) (s:ByteArray):ma d s 0=d.accept:=by
 refine List.ext_getElem (x6 d s 0) fun j h aZ=>?_
 rw[Ee,if_neg (Nat.not_lt_zero _),List.getD_eq_getElem?_getD,List.getElem?_eq_getElem aZ]
 rfl
theorem VT (d:ao) (s:ByteArray):ma d s d.accept.length=(hX d s).accept:=by
 unfold ma hX
 refine List.map_congr_left fun q aE=>?_
 rw[if_pos (List.mem_range.1 aE)]
theorem VU (d:ao) (s:ByteArray) {i:Nat} (_h:i<d.accept.length):((ma d s i).map B).set i (B (rA d s i))=(ma d s (i+1)).map B:=by
 rw[←List.map_set]
 refine congrArg (List.map B) (List.ext_getElem (by rw[List.length_set,x6,x6]) fun j J aa=>?_)
 rw[List.getElem_set]
 rw[Ee,Ee]
 by_cases e:i=j
 ·subst e
  rw[if_pos rfl,if_pos (Nat.lt_succ_self _)]
 ·rw[if_neg e]
  by_cases k:j<i
  ·rw[if_pos k,if_pos (by omega)]
  ·rw[if_neg k,if_neg (by omega)]
theorem Ef (s:ab) (d:Nat) {A:List Bool} (l:List V) (du:A≠[]) (h:s.b d=none):fA s d [.uq 1 (A.map B),.slc true 1 l]=some ([.bS s.lv d A.length,.slc true 1 l],{s with b:=ae s.b d (some (.arr false 1 (A.map B)))}):=by
 have e:fA s (d+1) [.slc true 1 l]=some ([.slc true 1 l],s):=rfl
 unfold fA
 rw[e]
 dsimp only
 rw[DI s d A h]
 unfold gp kI
 rw[if_neg (fun e=>du (List.eq_nil_of_length_eq_zero e)),if_neg du]
 rfl
attribute [go_sem high] Ef
theorem vD (s:ab) (n lv t k:Nat):ht s (n+1) (.bS lv t k)=match s.ob lv t with
 | some (.arr _ sz l)=>if l.length=k then some (.slc false sz l)else none
 | some (.dir sz l)=>if l.length=k then(pQ (ht s n) l).map (.slc false sz ·)else none
 | _=>none:=rfl
theorem VV (s:ab) (n:Nat) (b:Bool) (sz:Nat) (l:List V):ht s n (.slc b sz l)=some (.slc false sz l):=by
 cases n<;>cases b<;>rfl
theorem VW (s:ab) (n:Nat) (i:Int) (k:IntKind):ht s n (.int k i)=some (.int k i):=by cases n<;>rfl
attribute [go_sem] vD VV VW
theorem VX (l:List Bool):(l.map B).all V.free=true:=by
 rw[List.all_eq_true]
 intro v arL
 obtain⟨b,_,rfl⟩:=List.mem_map.1 arL
 simp[B,V.free]
theorem VY (l:List (Nat×Nat×Nat)):(l.map gP).all V.free=true:=by
 rw[List.all_eq_true]
 intro v arL
 obtain⟨b,_,rfl⟩:=List.mem_map.1 arL
 unfold gP
 rw[zJ]
 simp[V.free]
theorem VZ (b:Bool):(V.bool b).free=true:=by rw[V.free]
theorem V0 (n:Nat):(V.slc false n []).free=true:=by rw[V.free]
theorem flat_agg (l:List V):(V.agg l).qQ=(V.agg l).qP:=rfl
theorem V1 (l:List V):(V.tup l).qQ=l.all V.qP:=rfl
attribute [go_sem] zJ CK GZ VX VY VZ V0 flat_agg V1
attribute [go_sem] V.qP FE
theorem V2 (l:List Bool):(l.map B).map V.cI=l.map B:=by
 rw[List.map_map]
 exact List.map_congr_left fun b _=>by simp[B,V.cI]
theorem V3 (l:List Int):(l.map I).map V.cI=l.map I:=by
 rw[List.map_map]
 exact List.map_congr_left fun b _=>by simp[I,V.cI]
theorem V4 (l:List (List Int)):(l.map fg).map V.cI=l.map eE:=by
 rw[List.map_map]
 refine List.map_congr_left fun r _=>?_
 show V.cI (.uq 1 (r.map I))=.slc false 1 (r.map I)
 rw[V.cI]
 simp
 intro a _
 simp[I,V.cI]
theorem V5 (l:List (Nat×Nat×Nat)):(l.map gP).map V.cI=l.map bu:=by
 rw[List.map_map]
 refine List.map_congr_left fun r _=>?_
 show V.cI (.uq 1 _)=.slc false 1 _
 rw[V.cI]
 simp[V.cI]
attribute [go_sem] V2 V3 V4 V5
def vE (x:eQ) (s:ByteArray):V:=if iR x=true∧isWord s=true then .tup [(cF (hX x.gx s) 0).dX,.bool true]else .tup [.agg [.slc false 1 [],.slc false 1 []],.bool false]
end Go.aB
namespace Go.aB
open Go
theorem V6 (s:ab) (d:Nat) {A:List Bool} (du:A≠[]) (h:s.b d=none):jw s d (.uq 1 (A.map B))=some (.bS s.lv d A.length,{s with b:=ae s.b d (some (.arr false 1 (A.map B)))}):=by
 have e:=DI s d A h
 unfold gp kI at e
 rw[if_neg (fun e=>du (List.eq_nil_of_length_eq_zero e)),if_neg du]at e
 cases A with
 | nil=>exact absurd rfl du
 | cons a A=>
   have aJ:kV ((a::A).map B)=true:=by
    unfold kV
    rw[List.all_eq_true]
    intro v arL
    obtain⟨y,aA,arL⟩:=List.mem_flatten.1 arL
    obtain⟨z,aD,rfl⟩:=List.mem_map.1 aA
    obtain⟨b,_,rfl⟩:=List.mem_map.1 aD
    obtain rfl:v=B b:=by simpa[B,V.flat]using arL
    rfl
   rw[List.map_cons]at aJ e⊢
   unfold jw
   dsimp only
   rw[if_pos aJ]
   exact e
theorem V7 (s:ab) (d:Nat) {l:List (Nat×Nat×Nat)} (ai:l≠[]):jw s d (.uq 1 (l.map gP))=some (.uq 1 (l.map gP),s):=by
 cases l with
 | nil=>exact absurd rfl ai
 | cons a l=>
   have aJ:kV ((a::l).map gP)=false:=by simp[kV,gP,V.flat,bM]
   rw[List.map_cons]at aJ⊢
   unfold jw
   dsimp only
   rw[aJ]
   rfl
theorem V8 (s:ab) (d:Nat) {A:List Bool} {l:List (Nat×Nat×Nat)} (du:A≠[]) (ai:l≠[]) (h:s.b d=none):hr s d [.uq 1 (A.map B),.uq 1 (l.map gP)]=some ([.bS s.lv d A.length,.uq 1 (l.map gP)],{s with b:=ae s.b d (some (.arr false 1 (A.map B)))}):=by
 have e:hr s (d+1) [.uq 1 (l.map gP)]=some ([.uq 1 (l.map gP)],s):=by
  unfold hr
  have:hr s (d+1+1) []=some ([],s):=rfl
  rw[this]
  dsimp only
  rw[V7 s _ ai]
  rfl
 unfold hr
 rw[e]
 dsimp only
 rw[V6 s d du h]
 rfl
attribute [go_sem high] V8
end Go.aB
namespace Go.aB
open Go
def nums (n:Int) (l:List Int):Bool:=l.all fun q=>decide (0≤q)&&decide (q≤n-1)
def V9 (n:Nat) (r:List Int):Bool:=((r.length:Int)==n)&&nums n r
def aq7 (m:Mon):Bool:=!((m.maps.length:Int)==0)&&(((m.Aj.length:Int)==3)&&(((m.product.length:Int)==m.maps.length)&&(nums m.maps.length m.Aj&&m.product.all (V9 m.maps.length))))
def aq8 (a b:kg):Bool:=(a.left.toList==b.left.toList)&&((a.right.toList==b.right.toList)&&(a.maps==b.maps))
def solved (s:kg):Bool:=decide (s.left.size=0)&&decide (s.right.size=0)
def aq9 (l:List (List Int)):Bool:=l.any fun x=>((x.length:Int)==0)
theorem Wa {l m:List Int} {i:Nat} (J:i<l.length) (aa:i<m.length):(l.drop i==m.drop i)=((l[i]==m[i])&&(l.drop (i+1)==m.drop (i+1))):=by
 rw[List.drop_eq_getElem_cons J,List.drop_eq_getElem_cons aa]
 rfl
end Go.aB
namespace Go.aB
end Go.aB
namespace Go.aB
def choice (e:hV) (c:Int) (l:List Int):List Int:=if Il c (e.left++e.right) 0=0 then l.take 1 else l
def Wb (k:Nat):Int:=bC ⟨#[88,89,90]⟩ k
def Wc (e:hV) (a b:Int) (z:List Int):List kg:=z.map fun c=>⟨e.left,e.right,[a,b,c]⟩
def Wd (e:hV) (a:Int) (y z:List Int):List kg:=y.flatMap fun b=>Wc e a b z
def We (e:hV) (x y z:List Int):List kg:=x.flatMap fun a=>Wd e a y z
def Wf (e:hV) (x y z:List Int):List kg:=if x.length*y.length*z.length>400 then[]else We e x y z
def AS (f:qh) (k:Nat):List Int:=choice f.Ak (Wb k) (f.allowed.getD k [])
def ara (f:qh):List kg:=if f.allowed.length=3 then Wf (strip f.Ak) (AS f 0) (AS f 1) (AS f 2)else[]
end Go.aB
namespace Go.aB
end Go.aB
namespace Go.aB
def Wg (f:qh):Nat→Nat
 | 0=>1
 | i+1=>Wg f i*min (AS f i).length 401
end Go.aB
namespace Go.aB
open Go
section
variable {E:Env} {ev:ds} {s:ab} {ty:TypeId} {pos:String} {bx:Array Edge} {g:Option (Nat×Bool)}
theorem Wh (d:Nat) (x:Operand):eL E ev {dst:=some d,op:=.assign x,type:=ty,pos:=pos,after:=bx,guard:=g} s=oy d s.n (bw E.P (E.H s.f) d ty (.assign x) s):=put_eq ..
end
attribute [go_sem] Wh
end Go.aB
namespace Go.aB
open Go
set_option maxRecDepth 10000
set_option maxHeartbeats 4000000
def rB (u y:Nat):Prop:=y=u∨y=u+1∨∃j,y=cg (u+1) j
theorem Eg {u y:Nat} (h:y<u):¬rB u y:=by
 rintro (e | e | ⟨j,e⟩)
 ·omega
 ·omega
 ·have:=Av (u+1) j;omega
theorem Wi {u v i j:Nat} (hu:u<iG) (arL:v<iG) (h:u≠v):cg u i≠cg v j:=by
 intro e
 unfold cg at e
 have aR:(u+(i+1)*iG)%iG=u:=by rw[Nat.add_mul_mod_self_right,Nat.mod_eq_of_lt hu]
 have a7:(v+(j+1)*iG)%iG=v:=by rw[Nat.add_mul_mod_self_right,Nat.mod_eq_of_lt arL]
 rw[e,a7]at aR
 exact h aR.symm
theorem x7 (u i:Nat):iG≤cg u i:=by
 unfold cg
 have:1*iG≤(i+1)*iG:=Nat.mul_le_mul_right _ (by omega)
 omega
theorem Wj:1000000<iG:=by decide
theorem JL {u v y:Nat} (hu:u<900000) (arL:v<900000) (h:u+1<v∨v+1<u) (k:rB u y):¬rB v y:=by
 have ay:=Wj
 rcases k with rfl | rfl | ⟨i,rfl⟩<;>rintro (e | e | ⟨j,e⟩)
 ·omega
 ·omega
 ·have:=x7 (v+1) j;omega
 ·omega
 ·omega
 ·have:=x7 (v+1) j;omega
 ·have:=x7 (u+1) i;omega
 ·have:=x7 (u+1) i;omega
 ·exact Wi (by omega) (by omega) (by omega) e
structure mb (b:Nat→Option ax) (u:Nat) (A:List Bool) (rows:List (List Int)):Prop where
 acc:A≠[]→b u=some (.arr false 1 (A.map B))
 dir:rows≠[]→b (u+1)=some (.dir 1 (ih 0 (u+1) (rows.map List.length)))
 row:∀j,(h:j<rows.length)→rows[j]≠[]→b (cg (u+1) j)=some (.dir 1 (rows[j].map I))
theorem mb.congr {b dU:Nat→Option ax} {u:Nat} {A:List Bool} {rows:List (List Int)} (h:mb b u A rows) (e:∀y,rB u y→dU y=b y):mb dU u A rows:=
 ⟨fun z=>(e _ (.inl rfl)).trans (h.acc z),fun z=>(e _ (.inr (.inl rfl))).trans (h.dir z),fun j au z=>(e _ (.inr (.inr ⟨j,rfl⟩))).trans (h.row j au z)⟩
theorem made (b:Nat→Option ax) (u:Nat) (A:List Bool) (rows:List (List Int)) (h:∀y,rB u y→b y=none):
 ∃dU,(∀t r f n,fA ⟨t,b,[],r,f,n⟩ u [.uq 1 (A.map B),.uq 1 (rows.map fg)]=some ([gp 0 u A.length,gp 0 (u+1) rows.length],⟨t,dU,[],r,f,n⟩))∧mb dU u A rows∧∀y,¬rB u y→dU y=b y:=by
 have aY:∀j,cg (u+1) j≠u+1∧cg (u+1) j≠u:=fun j=>by have:=Av (u+1) j;omega
 refine⟨kI u A (iT 0 (u+1) rows b),fun t r f n=>?_,⟨fun z=>?_,fun z=>?_,fun j au z=>?_⟩,fun y aA=>?_⟩
 ·exact IJ ⟨t,b,[],r,f,n⟩ u A rows (h _ (.inl rfl)) (h _ (.inr (.inl rfl))) fun j=>h _ (.inr (.inr ⟨j,rfl⟩))
 ·unfold kI
  rw[if_neg z]
  show(if u=u then _ else _)=_
  rw[if_pos rfl]
 ·have aR:kI u A (iT 0 (u+1) rows b) (u+1)=iT 0 (u+1) rows b (u+1):=by
   unfold kI
   split
   ·rfl
   ·show(if u+1=u then _ else _)=_
    rw[if_neg (by omega)]
  rw[aR]
  unfold iT
  rw[if_neg z]
  show(if u+1=u+1 then _ else _)=_
  rw[if_pos rfl]
 ·have aR:kI u A (iT 0 (u+1) rows b) (cg (u+1) j)=iT 0 (u+1) rows b (cg (u+1) j):=by
   unfold kI
   split
   ·rfl
   ·show(if _=u then _ else _)=_
    rw[if_neg (aY j).2]
  rw[aR]
  unfold iT
  rw[if_neg (fun e=>by subst e;exact absurd au (Nat.not_lt_zero _))]
  show(if _=u+1 then _ else _)=_
  rw[if_neg (aY j).1]
  have:=II (u+1) rows 0 b j au z
  rw[Nat.zero_add]at this
  exact this
 ·have aR:kI u A (iT 0 (u+1) rows b) y=iT 0 (u+1) rows b y:=by
   unfold kI
   split
   ·rfl
   ·show(if y=u then _ else _)=_
    rw[if_neg fun e=>aA (.inl e)]
  rw[aR]
  unfold iT
  split
  ·rfl
  ·show(if y=u+1 then _ else _)=_
   rw[if_neg fun e=>aA (.inr (.inl e))]
   exact xM _ _ _ _ fun j _ e=>aA (.inr (.inr ⟨j,e⟩))
theorem Wk {b:Nat→Option ax} {u n:Nat} {s:ab} (ad:s.b=b) (aj:s.o=[]):∀(rows:List (List Int)) (i:Nat),(∀j,(h:j<rows.length)→rows[j]≠[]→b (cg u (i+j))=some (.dir 1 (rows[j].map I)))→pQ (ht s (n+2)) (mL 0 u (rows.map List.length) i)=some (rows.map eE):=by
 intro rows
 induction rows with
 | nil=>intro i _;rfl
 | cons r rs ag=>
   intro i h
   have Wl:=ag (i+1) fun j au z=>by
    have:=h (j+1) (by simpa using au) (by simpa using z)
    rw[show i+1+j=i+(j+1) by omega]
    simpa using this
   have bn:=h 0 (by simp)
   rw[List.map_cons]
   unfold mL pQ
   rw[Wl]
   by_cases aD:r=[]
   ·subst aD
    rfl
   ·have ai:¬r.length=0:=fun e=>aD (List.eq_nil_of_length_eq_zero e)
    have JM:=bn aD
    have Wm:pQ (ht s (n+1)) (r.map I)=some (r.map I):=by
     clear bn JM ai aD h
     induction r with
     | nil=>rfl
     | cons a r pw=>
       rw[List.map_cons]
       unfold pQ
       rw[pw]
       rfl
    have e:ht s (n+2) (eH 0 (cg u i) r.length)=some (eE r):=by
     unfold eH
     rw[if_neg ai,vD]
     have:s.ob 0 (cg u i)=some (.dir 1 (r.map I)):=by
      unfold ab.ob
      rw[aj,ad]
      exact JM
     rw[this]
     dsimp only
     rw[if_pos (List.length_map _),Wm]
     rfl
    have rC:(eH 0 (cg u i) r.length).flat=[eH 0 (cg u i) r.length]:=by
     unfold eH
     rw[if_neg ai]
     rfl
    rw[rC]
    unfold e0
    rw[e]
    show(match some [eE r],some (rs.map eE)with | some cs,some bc=>some ((eH 0 (cg u i) r.length).rW cs::bc) | _,_=>none)=_
    unfold eH
    rw[if_neg ai]
    rfl
theorem JN {b:Nat→Option ax} {u:Nat} {A:List Bool} {rows:List (List Int)} (h:mb b u A rows) (t r f n):
 ht ⟨t,b,[],r,f,n⟩ 9 (eH 0 u A.length)=some (.slc false 1 (A.map B))∧ht ⟨t,b,[],r,f,n⟩ 9 (eH 0 (u+1) rows.length)=some (.slc false 1 (rows.map eE)):=by
 constructor
 ·cases A with
  | nil=>rfl
  | cons a A=>
    unfold eH
    rw[if_neg (by simp),vD]
    have:ab.ob ⟨t,b,[],r,f,n⟩ 0 u=some (.arr false 1 ((a::A).map B)):=h.acc (by simp)
    rw[this]
    dsimp only
    rw[if_pos (List.length_map _)]
 ·cases aI:rows with
  | nil=>rfl
  | cons sF rs=>
    rw[←aI]
    have aC:rows≠[]:=by rw[aI];simp
    have ai:¬rows.length=0:=by rw[aI];simp
    have e:=Wk (b:=b) (u:=u+1) (n:=6) (s:=⟨t,b,[],r,f,n⟩) rfl rfl rows 0 (fun j au z=>by rw[Nat.zero_add];exact h.row j au z)
    rw[IH]at e
    unfold eH
    rw[if_neg ai,vD]
    have:ab.ob ⟨t,b,[],r,f,n⟩ 0 (u+1)=some (.dir 1 (ih 0 (u+1) (rows.map List.length))):=h.dir aC
    rw[this]
    dsimp only
    rw[if_pos (by simp[ih]),e]
    rfl
theorem Wn (lv id n:Nat):mr (gp lv id n)=true:=by unfold gp;split<;>rfl
theorem Wo (l id n:Nat):fS l (gp 0 id n)=true:=by
 unfold gp
 split
 ·rfl
 ·exact decide_eq_true (Nat.zero_le l)
theorem Wp (lv id n:Nat):jt (eH lv id n)=true:=by unfold eH;split<;>rfl
theorem Wq (lv id n:Nat):(eH lv id n).cM=eH lv id n:=by unfold eH;split<;>rfl
theorem Wr (a b c d e f:Nat):[gp a b c,gp d e f].all mr=true:=by simp only[List.all_cons,List.all_nil,Wn,Bool.and_true]
theorem Ws (l b c e f:Nat):[gp 0 b c,gp 0 e f].all (fS l)=true:=by simp only[List.all_cons,List.all_nil,Wo,Bool.and_true]
theorem Wt (a b c d e f:Nat):[gp a b c,gp d e f].map V.cM=[eH a b c,eH d e f]:=by simp only[List.map_cons,List.map_nil,Up]
theorem Wu (a b c d e f:Nat):[eH a b c,eH d e f].map V.cM=[eH a b c,eH d e f]:=by simp only[List.map_cons,List.map_nil,Wq]
theorem Wv (a b c d e f:Nat):[eH a b c,eH d e f].all jt=true:=by simp only[List.all_cons,List.all_nil,Wp,Bool.and_true]
attribute [go_sem ↓ high] Wr Ws Wt Wu Wv
theorem Ww (s:ab) (n:Nat) (x:ByteArray):ht s n (.str x)=some (.str x):=by cases n<;>rfl
theorem Wx (s:ab) (n:Nat) (b:Bool):ht s n (.bool b)=some (.bool b):=by cases n<;>rfl
attribute [go_sem] Ww Wx
def mc (b:Nat→Option ax) (u:Nat):Prop:=∀y,rB u y→b y=none
def vF (u:Nat) (b dU:Nat→Option ax):Prop:=∀y,¬rB u y→dU y=b y
theorem mc.st {b:Nat→Option ax} {u k:Nat} (h:mc b u) (ay:k<u) (o:Option ax):mc (ae b k o) u:=fun y aA=>by
 show(if y=k then _ else _)=_
 rw[if_neg (fun e:y=k=>Eg ay (e▸aA))]
 exact h y aA
theorem mc.only {b dU:Nat→Option ax} {u v:Nat} (h:mc b u) (o:vF v b dU) (hu:u<900000) (arL:v<900000) (d:u+1<v∨v+1<u):mc dU u:=fun y aA=>(o y (JL hu arL d aA)).trans (h y aA)
theorem mc.bk (u:Nat):mc bk u:=fun _ _=>rfl
theorem mb.st {b:Nat→Option ax} {u k:Nat} {A:List Bool} {rows:List (List Int)} (h:mb b u A rows) (ay:k<u) (o:Option ax):mb (ae b k o) u A rows:=h.congr fun y aA=>if_neg (fun e:y=k=>Eg ay (e▸aA))
theorem mb.only {b dU:Nat→Option ax} {u v:Nat} {A:List Bool} {rows:List (List Int)} (h:mb b u A rows) (o:vF v b dU) (hu:u<900000) (arL:v<900000) (d:u+1<v∨v+1<u):mb dU u A rows:=h.congr fun y aA=>o y (JL hu arL d aA)
theorem vF.lo {b dU:Nat→Option ax} {u k:Nat} (o:vF u b dU) (ay:k<u) {x:Option ax} (h:b k=x):dU k=x:=(o k (Eg ay)).trans h
def arb (vs:List V) (A:List Bool) (rows:List (List Int)):Prop:=
 ∀(b:Nat→Option ax) (u:Nat),mc b u→∃dU,(∀t r f n,fA ⟨t,b,[],r,f,n⟩ u vs=some ([gp 0 u A.length,gp 0 (u+1) rows.length],⟨t,dU,[],r,f,n⟩))∧mb dU u A rows∧vF u b dU
theorem emp {α:Type} (A:List α):(A=[]∧((([]:List α).length=0)=True))∨(A≠[]∧((A.length=0)=False)):=by
 cases A with
 | nil=>exact .inl ⟨rfl,eq_true rfl⟩
 | cons a A=>exact .inr ⟨by simp,eq_false (by simp)⟩
theorem Wy (l:List (List Int)):(l.map fg).all V.free=true:=by
 rw[List.all_eq_true]
 intro v arL
 obtain⟨b,_,rfl⟩:=List.mem_map.1 arL
 unfold fg
 rw[zJ,List.all_eq_true]
 intro w hw
 obtain⟨c,_,rfl⟩:=List.mem_map.1 hw
 simp[I,V.free]
attribute [go_sem] Wy
def arc (JO JP:V) (A:List Bool) (L:List (List Int)):Prop:=
 (JO=.uq 1 (A.map B)∧JP=.uq 1 (L.map fg)∧A≠[]∧L≠[])∨(JO=.slc false 1 []∧JP=.slc false 1 []∧A=[]∧L=[])
theorem Wz (b:Bool):(V.bool b).qQ=true:=rfl
theorem WA (k:IntKind) (n:Int):(V.int k n).qQ=true:=rfl
theorem WB (x:ByteArray):(V.str x).qQ=true:=rfl
attribute [go_sem] Wz WA WB
end Go.aB
