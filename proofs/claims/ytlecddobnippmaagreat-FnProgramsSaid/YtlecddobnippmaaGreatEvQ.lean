/- Automata that nobody else sees become objects; read as they stand. Two ways to a minimal automaton: states told apart by rounds, and the search that lists their classes. States that no word tells apart; classes by rounds; the minimal automaton. The program's way to the minimal automaton: numbers for what is met, by rounds, until their count stands. Tables that number what they meet. Searches that stop where too much is met. Products, and what fits. -/
import Derived.Test.YtlecddobnippmaaGreatEvP
set_option linter.unusedVariables false
set_option linter.unusedSimpArgs false
namespace Go.aB
open Go
def fg (l:List Int):V:=.uq 1 (l.map I)
def eQ.aq5 (d:eQ):V:=.agg [.uq 1 (d.accept.map B),.uq 1 (d.next.map fg)]
theorem Uk (n:Nat) (s:ab) (id:Nat) (k:Int):fb (n+1) s id (I k)=some (I k,s):=by
 unfold fb I
 simp[bM]
theorem Ul (n M id:Nat):∀(l:List Int) (s:ab) (i:Nat),jv (fb (n+1)) M id 1 s i (l.map I)=some (l.map I,s):=by
 intro l
 induction l with
 | nil=>intro s i;rfl
 | cons a l ag=>
   intro s i
   rw[List.map_cons]
   unfold jv
   have e:jh (fb (n+1)) M id s (i*1) (I a).flat=some ([I a],s):=by
    show jh (fb (n+1)) M id s (i*1) [I a]=_
    unfold jh
    rw[Uk]
    rfl
   rw[e]
   dsimp only
   rw[ag]
   rfl
theorem Um (n:Nat) (s:ab) (id:Nat) (l:List Int) (h:s.b id=none):fb (n+2) s id (fg l)=some (eH s.lv id l.length,if l=[]then s else {s with b:=ae s.b id (some (.dir 1 (l.map I)))}):=by
 cases l with
 | nil=>
   show fb (n+2) s id (.uq 1 [])=_
   rfl
 | cons a l=>
   rw[if_neg (by simp)]
   show fb (n+2) s id (.uq 1 (I a::l.map I))=_
   unfold fb
   have e:=Ul n (4294967296^(n+1+1)) id (a::l) s 0
   rw[List.map_cons]at e
   rw[e]
   dsimp only
   rw[h]
   dsimp only
   unfold eH
   rw[if_neg (by simp)]
   simp
def eI (u:Nat):List (List Int)→Nat→(Nat→Option ax)→(Nat→Option ax)
 | [],_,b=>b
 | r::rs,i,b=>eI u rs (i+1) (if r=[]then b else ae b (cg u i) (some (.dir 1 (r.map I))))
def mL (lv u:Nat):List Nat→Nat→List V
 | [],_=>[]
 | n::c9,i=>eH lv (cg u i) n::mL lv u c9 (i+1)
theorem IG (lv u:Nat):∀(c9:List Nat) (i:Nat),(mL lv u c9 i).length=c9.length:=by
 intro c9
 induction c9 with
 | nil=>intro i;rfl
 | cons n c9 ag=>intro i;simp[mL,ag]
theorem Un (lv u:Nat):∀(c9:List Nat) (i j:Nat) (h:j<c9.length) (aZ:j<(mL lv u c9 i).length),(mL lv u c9 i)[j]=eH lv (cg u (i+j)) c9[j]:=by
 intro c9
 induction c9 with
 | nil=>intro i j h;simp at h
 | cons n c9 ag=>
   intro i j h aZ
   cases j with
   | zero=>rfl
   | succ j=>
     have:=ag (i+1) j (by simpa using h) (by simpa[mL]using aZ)
     show(mL lv u c9 (i+1))[j]'_=_
     rw[this,show i+1+j=i+(j+1) by omega]
     rfl
theorem IH (lv u:Nat) (c9:List Nat):mL lv u c9 0=ih lv u c9:=by
 refine List.ext_getElem (by rw[IG];simp[ih]) fun j h aZ=>?_
 have au:j<c9.length:=by rw[IG]at h;exact h
 rw[Un lv u c9 0 j au h,Nat.zero_add]
 simp[ih,List.getD_eq_getElem?_getD,au]
theorem Uo (u:Nat):∀(rows:List (List Int)) (s:ab) (i:Nat),(∀j,i≤j→s.b (cg u j)=none)→
 jv (fb 7) iG u 1 s i (rows.map fg)=some (mL s.lv u (rows.map List.length) i,{s with b:=eI u rows i s.b}):=by
 intro rows
 induction rows with
 | nil=>intro s i _;rfl
 | cons r rs ag=>
   intro s i h
   rw[List.map_cons]
   unfold jv
   have e:jh (fb 7) iG u s (i*1) (fg r).flat=some ([eH s.lv (cg u i) r.length],if r=[]then s else {s with b:=ae s.b (cg u i) (some (.dir 1 (r.map I)))}):=by
    show jh (fb 7) iG u s (i*1) [fg r]=_
    unfold jh
    rw[Nat.mul_one]
    have:=Um 5 s (cg u i) r (h i (Nat.le_refl _))
    unfold cg at this⊢
    rw[this]
    rfl
   rw[e]
   dsimp only
   have cG:(if r=[]then s else {s with b:=ae s.b (cg u i) (some (.dir 1 (r.map I)))}:ab).lv=s.lv:=by split<;>rfl
   rw[ag _ (i+1) (fun j au=>by
    split
    ·exact h j (by omega)
    ·show(if cg u j=cg u i then _ else _)=_
     rw[if_neg fun e=>by have:=Au e;omega]
     exact h j (by omega)),cG]
   dsimp only
   rw[List.map_cons]
   show some (eH s.lv (cg u i) r.length::mL s.lv u (rs.map List.length) (i+1),_)=some (eH s.lv (cg u i) r.length::mL s.lv u (rs.map List.length) (i+1),{s with b:=eI u rs (i+1) (if r=[]then s.b else ae s.b (cg u i) (some (.dir 1 (r.map I))))})
   by_cases aD:r=[]
   ·rw[if_pos aD,if_pos aD]
   ·rw[if_neg aD,if_neg aD]
def gp (lv id n:Nat):V:=if n=0 then .slc true 1 []else .bS lv id n
theorem Up (lv id n:Nat):(gp lv id n).cM=eH lv id n:=by unfold gp eH;split<;>rfl
def kI (d:Nat) (A:List Bool) (b:Nat→Option ax):Nat→Option ax:=if A=[]then b else ae b d (some (.arr false 1 (A.map B)))
def iT (lv d:Nat) (rows:List (List Int)) (b:Nat→Option ax):Nat→Option ax:=if rows=[]then b else ae (eI d rows 0 b) d (some (.dir 1 (ih lv d (rows.map List.length))))
theorem xM (u:Nat) {x:Nat}:∀(rows:List (List Int)) (i:Nat) (b:Nat→Option ax),(∀j,i≤j→x≠cg u j)→eI u rows i b x=b x:=by
 intro rows
 induction rows with
 | nil=>intro i b _;rfl
 | cons r rs ag=>
   intro i b h
   unfold eI
   rw[ag (i+1) _ fun j au=>h j (by omega)]
   split
   ·rfl
   ·show(if x=cg u i then _ else _)=_
    rw[if_neg (h i (Nat.le_refl _))]
theorem II (u:Nat):∀(rows:List (List Int)) (i:Nat) (b:Nat→Option ax) (j:Nat) (h:j<rows.length),rows[j]≠[]→eI u rows i b (cg u (i+j))=some (.dir 1 (rows[j].map I)):=by
 intro rows
 induction rows with
 | nil=>intro i b j h;simp at h
 | cons r rs ag=>
   intro i b j h aD
   unfold eI
   cases j with
   | zero=>
     rw[xM _ _ _ _ fun j au e=>by have:=Au e;omega,if_neg (show ¬r=[]from aD)]
     show(if _=_ then _ else _)=_
     rw[if_pos (by simp)]
     rfl
   | succ j=>
     have:=ag (i+1) (if r=[]then b else ae b (cg u i) (some (.dir 1 (r.map I)))) j (by simpa using h) aD
     rw[show i+1+j=i+(j+1) by omega]at this
     exact this
theorem Uq (s:ab) (d:Nat) (rows:List (List Int)) (aw:s.b d=none) (h:∀j,s.b (cg d j)=none):e1 s d (.uq 1 (rows.map fg))=some (gp s.lv d rows.length,{s with b:=iT s.lv d rows s.b}):=by
 cases rows with
 | nil=>rfl
 | cons r rs=>
   unfold e1
   rw[List.map_cons]
   dsimp only
   have aJ:kV (fg r::rs.map fg)=false:=by simp[kV,fg,V.flat,bM]
   rw[aJ]
   simp only[Bool.false_eq_true,if_false]
   unfold fb
   have e:=Uo d (r::rs) s 0 (fun j _=>h j)
   rw[List.map_cons]at e
   have cc:jv (fb 7) (4294967296^(7+1)) d 1 s 0 (fg r::rs.map fg)=_:=e
   rw[cc]
   dsimp only
   rw[xM _ _ _ _ fun j _=>Nat.ne_of_lt (Av d j),aw]
   dsimp only
   unfold gp iT
   rw[if_neg (by simp),if_neg (by simp),IH]
   show some (V.bS s.lv d (ih s.lv d _).length,_)=_
   rw[show(ih s.lv d ((r::rs).map List.length)).length=(r::rs).length by simp[ih]]
theorem DI (s:ab) (d:Nat) (A:List Bool) (h:s.b d=none):e1 s d (.uq 1 (A.map B))=some (gp s.lv d A.length,{s with b:=kI d A s.b}):=by
 cases A with
 | nil=>rfl
 | cons a A=>
   unfold e1
   rw[List.map_cons]
   dsimp only
   have aJ:kV (B a::A.map B)=true:=by
    unfold kV
    rw[List.all_eq_true]
    intro v arL
    obtain⟨y,aA,arL⟩:=List.mem_flatten.1 arL
    obtain⟨z,aD,rfl⟩:=List.mem_map.1 aA
    rw[←List.map_cons]at aD
    obtain⟨b,_,rfl⟩:=List.mem_map.1 aD
    obtain rfl:v=B b:=by simpa[B,V.flat]using arL
    rfl
   rw[aJ]
   simp only[if_true]
   rw[h]
   dsimp only
   unfold gp kI
   rw[if_neg (by simp),if_neg (by simp)]
   simp
theorem Ur (lv d:Nat) (rows:List (List Int)) (b:Nat→Option ax) {x:Nat} (h:x<d):iT lv d rows b x=b x:=by
 unfold iT
 split
 ·rfl
 ·show(if x=d then _ else _)=_
  rw[if_neg (by omega),xM _ _ _ _ fun j _=>by have:=Av d j;omega]
theorem IJ (s:ab) (d:Nat) (A:List Bool) (rows:List (List Int)) (bn:s.b d=none) (J:s.b (d+1)=none) (h:∀j,s.b (cg (d+1) j)=none):fA s d [.uq 1 (A.map B),.uq 1 (rows.map fg)]=some ([gp s.lv d A.length,gp s.lv (d+1) rows.length],{s with b:=kI d A (iT s.lv (d+1) rows s.b)}):=by
 unfold fA fA fA
 dsimp only
 rw[Uq s (d+1) rows J h]
 dsimp only[Option.map]
 rw[DI _ d A (by
  show iT s.lv (d+1) rows s.b d=none
  rw[Ur _ _ _ _ (by omega)];exact bn)]
 rfl
end Go.aB
namespace Go.aB
open Go
def gO:List V→V
 | []=>.slc true 1 []
 | x::l=>.uq 1 (x::l)
theorem Us {l:List V} (h:l≠[]):gO l=.uq 1 l:=by cases l with | nil=>exact absurd rfl h | cons x l=>rfl
theorem Ax {α:Type} (f:α→V) {l:List α} (h:l≠[]):gO (l.map f)=.uq 1 (l.map f):=Us (by simpa using h)
def gP (t:Nat×Nat×Nat):V:=.uq 1 [.int .i64 t.1,.int .i64 t.2.1,.int .i64 t.2.2]
def ao.dX (d:ao):V:=.agg [.uq 1 (d.accept.map B),.uq 1 (d.next.map gP)]
def ao.rows (d:ao):List (List Int):=d.next.map fun t=>[(t.1:Int),t.2.1,t.2.2]
end Go.aB
namespace Go.aB
open Go
section
variable {α:Type}
def fN (c:α→Nat) (l:List α) (x:α):List α:=if l.any (fun y=>c y==c x)=true then l else l++[x]
def fO (c:α→Nat) (l X:List α):List α:=X.foldl (fN c) l
def bX (c:α→Nat) (X:List α):List α:=fO c [] X
theorem DJ {c:α→Nat} {l:List α} {x:α}:l.any (fun y=>c y==c x)=true↔∃y∈l,c y=c x:=by
 simp[List.any_eq_true]
theorem Ay {c:α→Nat} {l:List α} {x y:α} (h:y∈fN c l x):y∈l∨y=x:=by
 unfold fN at h
 split at h
 ·exact .inl h
 ·simpa using h
theorem IK (c:α→Nat) (l:List α) (x:α):l <+: fN c l x:=by
 unfold fN
 split
 ·exact List.prefix_refl l
 ·exact List.prefix_append l [x]
theorem IL (c:α→Nat):∀(X l:List α),l <+: fO c l X:=by
 intro X
 induction X with
 | nil=>intro l;exact List.prefix_refl l
 | cons x X ag=>intro l;exact(IK c l x).trans (ag _)
theorem Ut {c:α→Nat}:∀{X l:List α} {y:α},y∈fO c l X→y∈l∨y∈X:=by
 intro X
 induction X with
 | nil=>intro l y h;exact .inl h
 | cons x X ag=>
   intro l y h
   rcases ag h with h | h
   ·rcases Ay h with h | rfl
    ·exact .inl h
    ·exact .inr (List.mem_cons_self ..)
   ·exact .inr (List.mem_cons_of_mem _ h)
theorem ld {c:α→Nat} {X:List α} {y:α} (h:y∈bX c X):y∈X:=by
 rcases Ut (show y∈fO c [] X from h)with h | h
 ·cases h
 ·exact h
theorem Uu {c:α→Nat}:∀{X l:List α} {y:α},y∈l∨y∈X→∃z∈fO c l X,c z=c y:=by
 intro X
 induction X with
 | nil=>intro l y h;exact⟨y,h.resolve_right (by simp),rfl⟩
 | cons x X ag=>
   intro l y h
   have U:∃z∈fN c l x,c z=c x:=by
    unfold fN
    split
    ·rename_i aO;exact DJ.1 aO
    ·exact⟨x,by simp,rfl⟩
   rcases h with h | h
   ·exact ag (.inl ((IK c l x).subset h))
   ·rcases List.mem_cons.1 h with rfl | h
    ·obtain⟨z,aD,e⟩:=U
     obtain⟨nx,eW,cc⟩:=ag (l:=fN c l y) (y:=z) (.inl aD)
     exact⟨nx,eW,cc.trans e⟩
    ·exact ag (.inr h)
theorem vm {c:α→Nat} {X:List α} {y:α} (h:y∈X):∃z∈bX c X,c z=c y:=Uu (.inr h)
theorem ta {c:α→Nat} {X:List α} {y:α}:c y∈(bX c X).map c↔∃z∈X,c z=c y:=by
 rw[List.mem_map]
 constructor
 ·rintro⟨z,h,e⟩;exact⟨z,ld h,e⟩
 ·rintro⟨z,h,e⟩
  obtain⟨nx,aZ,cc⟩:=vm (c:=c) h
  exact⟨nx,aZ,cc.trans e⟩
theorem Az (c:α→Nat) (X:List α) (x:α):bX c (X++[x])=fN c (bX c X) x:=by
 unfold bX fO
 rw[List.foldl_append]
 rfl
theorem Uv (c:α→Nat) (X Y:List α):bX c (X++Y)=fO c (bX c X) Y:=by
 unfold bX fO
 rw[List.foldl_append]
theorem qj {c:α→Nat} {l:List α} {x:α} (h:∃y∈l,c y=c x):fN c l x=l:=by
 unfold fN;rw[if_pos (DJ.2 h)]
theorem pA {c:α→Nat} {l:List α} {x:α} (h:¬∃y∈l,c y=c x):fN c l x=l++[x]:=by
 unfold fN;rw[if_neg (fun e=>h (DJ.1 e))]
theorem Uw (c:α→Nat):∀(X l:List α),(fO c l X).length≤l.length+X.length:=by
 intro X
 induction X with
 | nil=>intro l;exact Nat.le_refl _
 | cons x X ag=>
   intro l
   have J:=ag (fN c l x)
   have aa:(fN c l x).length≤l.length+1:=by
    unfold fN;split<;>simp
   show(fO c (fN c l x) X).length≤l.length+(X.length+1)
   omega
theorem xN (c:α→Nat) (X:List α):(bX c X).length≤X.length:=by
 have:=Uw c X []
 simpa[bX]using this
theorem Ux {c bJ:α→Nat} {P:α→Prop} (h:∀x y,P x→P y→(c x=c y↔bJ x=bJ y)):∀(X l:List α),(∀x∈l,P x)→(∀x∈X,P x)→fO c l X=fO bJ l X:=by
 intro X
 induction X with
 | nil=>intro l _ _;rfl
 | cons x X ag=>
   intro l ai bO
   have U:=bO x (List.mem_cons_self ..)
   have e:fN c l x=fN bJ l x:=by
    by_cases bj:∃y∈l,c y=c x
    ·obtain⟨y,aA,e⟩:=bj
     rw[qj ⟨y,aA,e⟩,qj ⟨y,aA,(h y x (ai y aA) U).1 e⟩]
    ·rw[pA bj,pA]
     rintro⟨y,aA,e⟩
     exact bj ⟨y,aA,(h y x (ai y aA) U).2 e⟩
   show fO c (fN c l x) X=fO bJ (fN bJ l x) X
   rw[e]
   exact ag _ (fun y aA=>by
    rcases Ay aA with aA | rfl
    ·exact ai y aA
    ·exact U) (fun y aA=>bO y (List.mem_cons_of_mem _ aA))
theorem IM {c bJ:α→Nat} {X:List α} (h:∀x y,x∈X→y∈X→(c x=c y↔bJ x=bJ y)):bX c X=bX bJ X:=
 Ux (P:=(·∈X)) h X [] (by simp) (fun _ h=>h)
theorem IN {c bJ:α→Nat} {P:α→Prop} (h:∀x y,P x→P y→bJ x=bJ y→c x=c y):∀(X l bc:List α),(∀x∈bc,P x)→(∀x∈X,P x)→l.Sublist bc→(∀y∈bc,∃z∈l,c z=c y)→(fO c l X).Sublist (fO bJ bc X):=by
 intro X
 induction X with
 | nil=>intro l bc _ _ al _;exact al
 | cons x X ag=>
   intro l bc ai bO al ah
   have U:=bO x (List.mem_cons_self ..)
   have vn:∀y∈fN bJ bc x,P y:=fun y aA=>by
    rcases Ay aA with aA | rfl
    ·exact ai y aA
    ·exact U
   have DK:∀y∈X,P y:=fun y aA=>bO y (List.mem_cons_of_mem _ aA)
   show(fO c (fN c l x) X).Sublist (fO bJ (fN bJ bc x) X)
   by_cases J:∃y∈l,c y=c x
   ·rw[qj J]
    by_cases aa:∃y∈bc,bJ y=bJ x
    ·rw[qj aa];exact ag l bc ai DK al ah
    ·rw[pA aa]at vn⊢
     refine ag l (bc++[x]) vn DK (al.trans (List.sublist_append_left _ _)) fun y aA=>?_
     rcases List.mem_append.1 aA with aA | aA
     ·exact ah y aA
     ·have:y=x:=by simpa using aA
      subst this;exact J
   ·have aa:¬∃y∈bc,bJ y=bJ x:=by
     rintro⟨y,aA,e⟩
     obtain⟨z,aD,cc⟩:=ah y aA
     exact J ⟨z,aD,cc.trans (h y x (ai y aA) U e)⟩
    rw[pA J]
    rw[pA aa]at vn⊢
    refine ag (l++[x]) (bc++[x]) vn DK (al.append (List.Sublist.refl _)) fun y aA=>?_
    rcases List.mem_append.1 aA with aA | aA
    ·obtain⟨z,aD,e⟩:=ah y aA
     exact⟨z,List.mem_append_left _ aD,e⟩
    ·have:y=x:=by simpa using aA
     subst this;exact⟨y,by simp,rfl⟩
theorem Uy {c:α→Nat}:∀(X l:List α),(∀i j,(hi:i<l.length)→(au:j<l.length)→c l[i]=c l[j]→i=j)→∀i j,(hi:i<(fO c l X).length)→(au:j<(fO c l X).length)→c (fO c l X)[i]=c (fO c l X)[j]→i=j:=by
 intro X
 induction X with
 | nil=>intro l h i j hi au e;exact h i j hi au e
 | cons x X ag=>
   intro l h
   refine ag (fN c l x) ?_
   by_cases J:∃y∈l,c y=c x
   ·rw[qj J];exact h
   ·rw[pA J]
    intro i j hi au e
    have dI:i<l.length+1:=by simpa using hi
    have di:j<l.length+1:=by simpa using au
    rw[List.getElem_append,List.getElem_append]at e
    split at e<;>split at e
    ·exact h _ _ _ _ e
    ·rename_i a b
     exact absurd ⟨_,List.getElem_mem a,by simpa using e⟩ J
    ·rename_i a b
     exact absurd ⟨_,List.getElem_mem b,by simpa using e.symm⟩ J
    ·omega
theorem Uz {c:α→Nat} {X:List α} {x y:α} (U:x∈bX c X) (aA:y∈bX c X) (h:c x=c y):x=y:=by
 obtain⟨i,hi,rfl⟩:=List.getElem_of_mem U
 obtain⟨j,au,rfl⟩:=List.getElem_of_mem aA
 have:=Uy (c:=c) X [] (fun i j hi=>by simp at hi) i j hi au h
 subst this;rfl
theorem IP {c bJ:α→Nat} {X:List α} (h:∀x y,x∈X→y∈X→bJ x=bJ y→c x=c y):(bX c X).length≤(bX bJ X).length:=
 (IN (P:=(·∈X)) h X [] [] (by simp) (fun _ h=>h) (List.Sublist.refl _) (by simp)).length_le
theorem IQ {c bJ:α→Nat} {X:List α} (h:∀x y,x∈X→y∈X→bJ x=bJ y→c x=c y) (ai:(bX bJ X).length≤(bX c X).length):∀x y,x∈X→y∈X→c x=c y→bJ x=bJ y:=by
 have al:=IN (P:=(·∈X)) h X [] [] (by simp) (fun _ h=>h) (List.Sublist.refl _) (by simp)
 have he:bX c X=bX bJ X:=al.eq_of_length_le ai
 have key:∀x∈X,∀z∈bX c X,c z=c x→bJ z=bJ x:=by
  intro x U z aD e
  obtain⟨nx,eW,cc⟩:=vm (c:=bJ) U
  rw[←he]at eW
  have:=Uz eW aD ((h _ _ (ld eW) U cc).trans e.symm)
  subst this;exact cc
 intro x y U aA e
 obtain⟨z,aD,jM⟩:=vm (c:=c) U
 rw[←key x U z aD jM,key y aA z aD (jM.trans e)]
end
theorem DL (c:Nat→Nat) (l:List Nat) (x:Nat):(bX c (ins l x)).map c=ins ((bX c l).map c) (c x):=by
 by_cases h:x∈l
 ·have e:ins l x=l:=if_pos h
  rw[e,ins,if_pos (ta.2 ⟨x,h,rfl⟩)]
 ·have e:ins l x=l++[x]:=if_neg h
  rw[e,Az]
  by_cases bj:∃y∈bX c l,c y=c x
  ·obtain⟨y,aA,e⟩:=bj
   rw[qj ⟨y,aA,e⟩,ins,if_pos (ta.2 ⟨y,ld aA,e⟩)]
  ·rw[pA bj,List.map_append,ins,if_neg]
   ·rfl
   ·intro hm
    obtain⟨y,aA,e⟩:=List.mem_map.1 hm
    exact bj ⟨y,aA,e⟩
theorem IS (c:Nat→Nat) (l:List Nat) (t:Nat×Nat×Nat):(bX c (b0 l t)).map c=b0 ((bX c l).map c) (c t.1,c t.2.1,c t.2.2):=by
 unfold b0
 rw[DL,DL,DL]
theorem DM {l:List Nat} {x:Nat} (h:x∈l):ins l x=l:=if_pos h
theorem UA {l:List Nat} {t:Nat×Nat×Nat} (J:t.1∈l) (aa:t.2.1∈l) (ar:t.2.2∈l):b0 l t=l:=by
 unfold b0
 rw[DM J,DM aa,DM ar]
def cS (c:Nat→Nat) (t:Nat×Nat×Nat):Nat×Nat×Nat:=(c t.1,c t.2.1,c t.2.2)
def tb (t:Nat×Nat×Nat) (n:Nat):Prop:=t.1<n∧t.2.1<n∧t.2.2<n
def pB (t:Nat×Nat×Nat) (l:List Nat):Prop:=t.1∈l∧t.2.1∈l∧t.2.2∈l
theorem IT (l:List Nat) (t:Nat×Nat×Nat):pB t (b0 l t):=⟨la.2 (.inr (.inl rfl)),la.2 (.inr (.inr (.inl rfl))),la.2 (.inr (.inr (.inr rfl)))⟩
theorem IU {l m:List Nat} {t:Nat×Nat×Nat} (h:∀x∈l,x∈m) (k:pB t l):pB t m:=⟨h _ k.1,h _ k.2.1,h _ k.2.2⟩
theorem xO {l:List Nat} {t:Nat×Nat×Nat} {n:Nat} (h:∀x∈l,x<n) (k:tb t n):∀x∈b0 l t,x<n:=by
 intro x U
 rcases la.1 U with U | rfl | rfl | rfl
 ·exact h x U
 ·exact k.1
 ·exact k.2.1
 ·exact k.2.2
theorem UB {c:Nat→Nat} {f g:Nat→Nat×Nat×Nat} {n:Nat} (aJ:∀x,x<n→tb (f x) n) (av:∀x,x<n→g (c x)=cS c (f x)):
 ∀(arP:Nat) (l:List Nat) (i:Nat) (rj:Nat),l.Nodup→(∀x∈l,x<n)→n≤arP+i→i≤l.length→n≤rj+(bX c (l.take i)).length→(∀k,(ay:k<l.length)→k<i→pB (f l[k]) l)→
  eF g rj ((bX c l).map c) (bX c (l.take i)).length=(bX c (eF f arP l i)).map c:=by
 intro arP
 induction arP with
 | zero=>
   intro l i rj aC ad J aa ar aP
   have ai:=nv aC ad
   have e:l.take i=l:=List.take_of_length_le (by omega)
   rw[e,ki (by simp),ki (by omega)]
 | succ arP ag=>
   intro l i rj aC ad J aa ar aP
   by_cases hi:i<l.length
   rotate_left
   ·have e:l.take i=l:=List.take_of_length_le (by omega)
    rw[e,ki (by simp),ki (by omega)]
   have U:=ad _ (List.getElem_mem hi)
   have oh:=nv aC ad
   have aK:l.take (i+1)=l.take i++[l[i]]:=by rw[List.take_append_getElem hi]
   rw[lb hi]
   have xP:=rh (t:=f l[i]) aC
   have h8:=xO ad (aJ _ U)
   have dc:=fG l (f l[i])
   have fe:(b0 l (f l[i])).take (i+1)=l.take (i+1):=by
    obtain⟨m,hm⟩:=dc
    rw[←hm,List.take_append_of_le_length (by omega)]
   have hlen:i+1≤(b0 l (f l[i])).length:=Nat.le_trans hi dc.length_le
   have zv:∀k,(ay:k<(b0 l (f l[i])).length)→k<i+1→pB (f (b0 l (f l[i]))[k]) (b0 l (f l[i])):=by
    intro k ay uD
    have mM:k<l.length:=by omega
    have e:(b0 l (f l[i]))[k]=l[k]:=by
     obtain⟨m,hm⟩:=dc
     simp only[←hm]
     exact List.getElem_append_left mM
    rw[e]
    by_cases e4:k<i
    ·exact IU (fun x U=>dc.subset U) (aP k mM e4)
    ·obtain rfl:k=i:=by omega
     exact IT _ _
   have UC:bX c l=fO c (bX c (l.take (i+1))) (l.drop (i+1)):=by
    rw[←Uv,List.take_append_drop]
   by_cases eU:∃y∈bX c (l.take i),c y=c l[i]
   ·have e:bX c (l.take (i+1))=bX c (l.take i):=by rw[aK,Az,qj eU]
    have:=ag (b0 l (f l[i])) (i+1) rj xP h8 (by omega) hlen (by rw[fe,e];exact ar) zv
    rw[fe,e,IS]at this
    obtain⟨y,aA,IV⟩:=eU
    have q9:=ld aA
    obtain⟨k,ay,rfl⟩:=List.getElem_of_mem q9
    have e4:k<i:=by simp at ay;omega
    have mM:k<l.length:=by omega
    rw[List.getElem_take]at IV
    have cj:cS c (f l[k])=cS c (f l[i]):=by rw[←av _ (ad _ (List.getElem_mem mM)),←av _ U,IV]
    have bf:=aP k mM e4
    have aR:c (f l[k]).1=c (f l[i]).1:=congrArg Prod.fst cj
    have a7:c (f l[k]).2.1=c (f l[i]).2.1:=congrArg (·.2.1) cj
    have UD:c (f l[k]).2.2=c (f l[i]).2.2:=congrArg (·.2.2) cj
    have hold:b0 ((bX c l).map c) (cS c (f l[i]))=(bX c l).map c:=UA (ta.2 ⟨_,bf.1,aR⟩) (ta.2 ⟨_,bf.2.1,a7⟩) (ta.2 ⟨_,bf.2.2,UD⟩)
    have aZ:eF g rj (b0 ((bX c l).map c) (cS c (f l[i]))) (bX c (l.take i)).length=(bX c (eF f arP (b0 l (f l[i])) (i+1))).map c:=this
    rw[hold]at aZ
    exact aZ
   ·have e:bX c (l.take (i+1))=bX c (l.take i)++[l[i]]:=by rw[aK,Az,pA eU]
    have iU:bX c (l.take (i+1)) <+: bX c l:=by rw[UC];exact IL c _ _
    have ny:(bX c (l.take i)).length<(bX c l).length:=by
     have:=iU.length_le
     rw[e,List.length_append]at this
     simp only[List.length_cons,List.length_nil]at this
     omega
    have CI:=xN c l
    have au:(bX c (l.take i)).length<((bX c l).map c).length:=by simpa using ny
    obtain⟨UE,rfl⟩:∃k,rj=k+1:=⟨rj-1,by omega⟩
    rw[lb au]
    have tc:((bX c l).map c)[(bX c (l.take i)).length]=c l[i]:=by
     rw[List.getElem_map]
     obtain⟨m,hm⟩:=iU
     rw[e]at hm
     simp only[←hm,List.append_assoc]
     rw[List.getElem_append_right (Nat.le_refl _)]
     simp
    rw[tc,av _ U]
    have:=ag (b0 l (f l[i])) (i+1) UE xP h8 (by omega) hlen (by rw[fe,e,List.length_append];simp;omega) zv
    rw[fe,e,IS,List.length_append]at this
    exact this
theorem UF {f:Nat→Nat×Nat×Nat} {n:Nat} (aJ:∀x,x<n→tb (f x) n):∀(arP:Nat) (l:List Nat) (i:Nat),l.Nodup→(∀x∈l,x<n)→(eF f arP l i).Nodup∧∀x∈eF f arP l i,x<n:=by
 intro arP
 induction arP with
 | zero=>intro l i J aa;exact⟨J,aa⟩
 | succ arP ag=>
   intro l i J aa
   by_cases hi:i<l.length
   ·rw[lb hi]
    exact ag _ _ (rh J) (xO aa (aJ _ (aa _ (List.getElem_mem hi))))
   ·rw[ki hi];exact⟨J,aa⟩
theorem UG {f:Nat→Nat×Nat×Nat} {n:Nat} (aJ:∀x,x<n→tb (f x) n):∀(arP:Nat) (l:List Nat) (i:Nat),l.Nodup→(∀x∈l,x<n)→n≤arP+i→(∀k,(ay:k<l.length)→k<i→pB (f l[k]) l)→∀x∈eF f arP l i,pB (f x) (eF f arP l i):=by
 intro arP
 induction arP with
 | zero=>
   intro l i aC ad J aP x U
   have ai:=nv aC ad
   obtain⟨k,ay,rfl⟩:=List.getElem_of_mem (show x∈l from U)
   exact aP k ay (by omega)
 | succ arP ag=>
   intro l i aC ad J aP
   by_cases hi:i<l.length
   rotate_left
   ·rw[ki hi]
    intro x U
    obtain⟨k,ay,rfl⟩:=List.getElem_of_mem U
    exact aP k ay (by omega)
   rw[lb hi]
   have dc:=fG l (f l[i])
   refine ag _ _ (rh aC) (xO ad (aJ _ (ad _ (List.getElem_mem hi)))) (by omega) ?_
   intro k ay uD
   have mM:k<l.length:=by omega
   have e:(b0 l (f l[i]))[k]=l[k]:=by
    obtain⟨m,hm⟩:=dc
    simp only[←hm]
    exact List.getElem_append_left mM
   rw[e]
   by_cases e4:k<i
   ·exact IU (fun x U=>dc.subset U) (aP k mM e4)
   ·obtain rfl:k=i:=by omega
    exact IT _ _
end Go.aB
namespace Go.aB
open Go
def e9 (d:ao):Nat→Nat→Nat→Prop
 | 0,p,q=>bB d p=bB d q
 | k+1,p,q=>e9 d k p q∧e9 d k (d.aN p).1 (d.aN q).1∧e9 d k (d.aN p).2.1 (d.aN q).2.1∧e9 d k (d.aN p).2.2 (d.aN q).2.2
theorem e9.refl (d:ao):∀k p,e9 d k p p:=by
 intro k
 induction k with
 | zero=>intro p;rfl
 | succ k ag=>intro p;exact⟨ag p,ag _,ag _,ag _⟩
theorem e9.mono {d:ao}:∀{j k:Nat},j≤k→∀{p q},e9 d k p q→e9 d j p q:=by
 intro j k h
 induction h with
 | refl=>intro p q h;exact h
 | step _ ag=>intro p q h;exact ag h.1
def jN (d:ao) (p q:Nat):Prop:=∀k,e9 d k p q
theorem jN.acc {d:ao} {p q:Nat} (h:jN d p q):bB d p=bB d q:=h 0
theorem jN.aN {d:ao} {p q:Nat} (h:jN d p q):jN d (d.aN p).1 (d.aN q).1∧jN d (d.aN p).2.1 (d.aN q).2.1∧jN d (d.aN p).2.2 (d.aN q).2.2:=
 ⟨fun k=>(h (k+1)).2.1,fun k=>(h (k+1)).2.2.1,fun k=>(h (k+1)).2.2.2⟩
def ar6 (d:ao) (X:List Nat):Prop:=∀x∈X,pB (d.aN x) X
theorem IW {d:ao} {X:List Nat} (bO:ar6 d X) {k:Nat} (h:∀p q,p∈X→q∈X→e9 d k p q→e9 d (k+1) p q):∀p q,p∈X→q∈X→e9 d k p q→jN d p q:=by
 have key:∀j p q,p∈X→q∈X→e9 d k p q→e9 d (k+j) p q:=by
  intro j
  induction j with
  | zero=>intro p q _ _ h;exact h
  | succ j ag=>
    intro p q arM aE he
    have J:=h p q arM aE he
    have hf:=bO p arM
    have DN:=bO q aE
    exact⟨ag p q arM aE he,ag _ _ hf.1 DN.1 J.2.1,ag _ _ hf.2.1 DN.2.1 J.2.2.1,ag _ _ hf.2.2 DN.2.2 J.2.2.2⟩
 intro p q arM aE he j
 exact e9.mono (Nat.le_add_left j k) (key j p q arM aE he)
theorem UH {p:Nat→Bool} {q:Nat} (aE:p q=true):∀k,p (qi p q k)=true:=by
 intro k
 induction k with
 | zero=>exact aE
 | succ k ag=>rw[As];split<;>assumption
theorem UI {p:Nat→Bool} {q:Nat}:∀k,k≤q→∀x,q-k≤x→x<qi p q k→p x=false:=by
 intro k
 induction k with
 | zero=>intro _ x J aa;rw[Iy]at aa;omega
 | succ k ag=>
   intro ay x J aa
   rw[As]at aa
   split at aa
   ·omega
   ·rename_i ah
    by_cases U:x=q-(k+1)
    ·subst U;simpa using ah
    ·exact ag (by omega) x (by omega) aa
theorem UJ (d:ao) (c:List Nat) (p:Nat):iE d c p p=true:=by simp[iE]
theorem ash {d:ao} {c:List Nat} {p q:Nat} (h:iE d c p q=true):iE d c q p=true:=by
 unfold iE at h⊢
 simp only[Bool.and_eq_true,beq_iff_eq]at h⊢
 exact⟨h.1.symm,h.2.1.symm,h.2.2.1.symm,h.2.2.2.symm⟩
theorem IY {d:ao} {c:List Nat} {p q r:Nat} (h:iE d c p q=true) (k:iE d c q r=true):iE d c p r=true:=by
 unfold iE at h k⊢
 simp only[Bool.and_eq_true,beq_iff_eq]at h k⊢
 exact⟨h.1.trans k.1,h.2.1.trans k.2.1,h.2.2.1.trans k.2.2.1,h.2.2.2.trans k.2.2.2⟩
theorem ase (d:ao) (c:List Nat) (q:Nat):iE d c (lead d c q) q=true:=UH (p:=fun x=>iE d c x q) (UJ d c q) q
theorem IZ {d:ao} {c:List Nat} {p q:Nat}:lead d c p=lead d c q↔iE d c p q=true:=by
 constructor
 ·intro h
  have J:=ase d c p
  rw[h]at J
  exact IY (ash J) (ase d c q)
 ·intro h
  have key:∀p q,iE d c p q=true→lead d c q≤lead d c p:=by
   intro p q h
   rcases Nat.lt_or_ge (lead d c p) (lead d c q)with aL | qY
   ·have:=UI (p:=fun x=>iE d c x q) (q:=q) q (Nat.le_refl _) (lead d c p) (by omega) aL
    have aa:=IY (ase d c p) h
    rw[show iE d c (lead d c p) q=false from this]at aa
    cases aa
   ·exact qY
  exact Nat.le_antisymm (key q p (ash h)) (key p q h)
theorem UK {d:ao} {p q:Nat} (arM:p<d.accept.length) (aE:q<d.accept.length):ba (dW d) p=ba (dW d) q↔bB d p=bB d q:=by
 have e:∀x,x<d.accept.length→ba (dW d) x=if bB d x=true then 1 else 0:=by
  intro x U
  unfold ba dW bB
  rw[List.getD_eq_getElem?_getD,List.getD_eq_getElem?_getD,List.getElem?_map,List.getElem?_eq_getElem U]
  rfl
 rw[e p arM,e q aE]
 cases bB d p<;>cases bB d q<;>simp
theorem DO {d:ao} (aj:d.ok):∀k p q,p<d.accept.length→q<d.accept.length→(ba (rounds d k (dW d)) p=ba (rounds d k (dW d)) q↔e9 d k p q):=by
 intro k
 induction k with
 | zero=>intro p q arM aE;exact UK arM aE
 | succ k ag=>
   intro p q arM aE
   rw[rounds_succ,xK arM,xK aE,IZ]
   unfold iE
   have td:=ao.ie aj arM
   have te:=ao.ie aj aE
   simp only[Bool.and_eq_true,beq_iff_eq]
   rw[ag p q arM aE,ag _ _ td.1 te.1,ag _ _ td.2.1 te.2.1,ag _ _ td.2.2 te.2.2]
   rfl
theorem UL {a:Nat→Nat} {n:Nat} (J:1≤a 0) (ad:∀k,a k≤n) (hm:∀k,a k≤a (k+1)):∃k,k≤n∧a (k+1)≤a k:=by
 apply Classical.byContradiction
 intro aY
 have key:∀k,k≤n+1→k+1≤a k:=by
  intro k
  induction k with
  | zero=>intro _;exact J
  | succ k ag=>
    intro ay
    have:=ag (by omega)
    rcases Nat.lt_or_ge (a k) (a (k+1))with h | h
    ·omega
    ·exact absurd ⟨k,by omega,h⟩ aY
 have:=key n (by omega)
 have:=ad n
 omega
theorem UM {d:ao} (aj:d.ok):ar6 d (List.range d.accept.length):=by
 intro x U
 have:=ao.ie aj (List.mem_range.1 U)
 exact⟨List.mem_range.2 this.1,List.mem_range.2 this.2.1,List.mem_range.2 this.2.2⟩
theorem xQ {d:ao} (aj:d.ok) (J:1≤d.accept.length) {p q:Nat} (arM:p<d.accept.length) (aE:q<d.accept.length):ba (rounds d (d.accept.length+1) (dW d)) p=ba (rounds d (d.accept.length+1) (dW d)) q↔jN d p q:=by
 rw[DO aj _ p q arM aE]
 constructor
 rotate_left
 ·intro h;exact h _
 intro h
 let X:=List.range d.accept.length
 have aJ:∀k x y,x∈X→y∈X→ba (rounds d (k+1) (dW d)) x=ba (rounds d (k+1) (dW d)) y→ba (rounds d k (dW d)) x=ba (rounds d k (dW d)) y:=by
  intro k x y U aA e
  have U:=List.mem_range.1 U
  have aA:=List.mem_range.1 aA
  rw[DO aj _ _ _ U aA]at e⊢
  exact e.1
 obtain⟨k,ay,hle⟩:=UL (a:=fun k=>(bX (ba (rounds d k (dW d))) X).length) (n:=d.accept.length)
  (by
   obtain⟨z,aD,_⟩:=vm (c:=ba (rounds d 0 (dW d))) (X:=X) (y:=0) (List.mem_range.2 J)
   exact List.length_pos_of_mem aD)
  (fun k=>by have:=xN (ba (rounds d k (dW d))) X;simpa[X]using this)
  (fun k=>IP (aJ k))
 refine IW (UM aj) (k:=k) ?_ p q (List.mem_range.2 arM) (List.mem_range.2 aE) (e9.mono (by omega) h)
 intro x y U aA e
 have kz:=List.mem_range.1 U
 have e3:=List.mem_range.1 aA
 rw[←DO aj _ _ _ kz e3]at e⊢
 exact IQ (aJ k) hle x y U aA e
def pC (d:ao) (c:Nat→Nat) (L:List Nat):ao:=⟨L.map (bB d),L.map fun q=>rowOf (L.map c) (cS c (d.aN q))⟩
def order (d:ao) (s:Nat):List Nat:=eF d.aN d.accept.length [s] 0
def quot (d:ao) (c:Nat→Nat) (s:Nat):ao:=pC d c (bX c (order d s))
theorem qk {d:ao} (aj:d.ok):∀x,x<d.accept.length→tb (d.aN x) d.accept.length:=fun x U=>ao.ie aj U
theorem xR {d:ao} (aj:d.ok) {s:Nat} (al:s<d.accept.length):ar6 d (order d s):=
 UG (qk aj) _ _ _ (by simp) (by simpa using al) (by omega) (fun k ay h=>by omega)
theorem rl {d:ao} (aj:d.ok) {s:Nat} (al:s<d.accept.length):(order d s).Nodup∧∀x∈order d s,x<d.accept.length:=
 UF (qk aj) _ _ _ (by simp) (by simpa using al)
theorem DP (d:ao) (s:Nat):s∈order d s:=(iS d.aN d.accept.length [s] 0).subset (by simp)
theorem UN {d:ao} (aj:d.ok) {s:Nat} (al:s<d.accept.length):(order d s).length≤d.accept.length:=nv (rl aj al).1 (rl aj al).2
theorem UO {c bJ:Nat→Nat}:∀{L:List Nat} {x:Nat},(∀y∈L,c y=c x↔bJ y=bJ x)→(L.map c).idxOf (c x)=(L.map bJ).idxOf (bJ x):=by
 intro L
 induction L with
 | nil=>intro x _;rfl
 | cons y L ag=>
   intro x h
   rw[List.map_cons,List.map_cons,List.idxOf_cons,List.idxOf_cons,ag fun z aD=>h z (List.mem_cons_of_mem _ aD)]
   have:=h y (List.mem_cons_self ..)
   by_cases e:c y=c x
   ·rw[beq_iff_eq.2 e,beq_iff_eq.2 (this.1 e)]
   ·rw[beq_eq_false_iff_ne.2 e,beq_eq_false_iff_ne.2 fun cc=>e (this.2 cc)]
theorem UP {d:ao} {c bJ:Nat→Nat} {s:Nat} (bO:ar6 d (order d s)) (h:∀x y,x∈order d s→y∈order d s→(c x=c y↔bJ x=bJ y)):quot d c s=quot d bJ s:=by
 unfold quot
 rw[IM h]
 unfold pC
 congr 1
 refine List.map_congr_left fun q aE=>?_
 have e7:=ld aE
 have aC:=bO q e7
 have hi:∀y,y∈order d s→((bX bJ (order d s)).map c).idxOf (c y)=((bX bJ (order d s)).map bJ).idxOf (bJ y):=fun y aA=>UO fun z aD=>h z y (ld aD) aA
 unfold rowOf cS
 rw[hi _ aC.1,hi _ aC.2.1,hi _ aC.2.2]
theorem UQ {d:ao} (aj:d.ok) (J:1≤d.accept.length):xJ d=quot d (ba (rounds d (d.accept.length+1) (dW d))) 0:=by
 unfold xJ
 have ay:=fun p q arM aE=>xQ aj J (p:=p) (q:=q) arM aE
 have aL:∀q,q<d.accept.length→ba (rounds d (d.accept.length+1) (dW d)) q<d.accept.length:=fun q aE=>IC aE
 have DQ:∀q,q<d.accept.length→jN d (ba (rounds d (d.accept.length+1) (dW d)) q) q:=by
  intro q aE
  have ah:=aL q aE
  rw[←ay _ _ ah aE]
  rw[rounds_succ,xK aE]
  have aa:lead d (rounds d d.accept.length (dW d)) q<d.accept.length:=Nat.lt_of_le_of_lt (IB _ _ _) aE
  rw[xK aa,IZ]
  exact ase _ _ _
 generalize rounds d (d.accept.length+1) (dW d)=C at ay aL DQ
 have av:∀x,x<d.accept.length→hd d C (ba C x)=cS (ba C) (d.aN x):=by
  intro x U
  have aC:=(DQ x U).aN
  have fk:=ao.ie aj (aL x U)
  have hx:=ao.ie aj U
  unfold hd IA cS
  rw[(ay _ _ fk.1 hx.1).2 aC.1,(ay _ _ fk.2.1 hx.2.1).2 aC.2.1,(ay _ _ fk.2.2 hx.2.2).2 aC.2.2]
 have al:=UB (c:=ba C) (qk aj) av d.accept.length [0] 0 d.accept.length (by simp) (by intro x U;obtain rfl:x=0:=List.mem_singleton.1 U;exact J) (by omega) (by simp) (by omega) (fun k ay h=>by omega)
 have ai:vk d C (ba C 0)=(bX (ba C) (order d 0)).map (ba C):=al
 have DR:∀x∈bX (ba C) (order d 0),x<d.accept.length:=fun x U=>(rl aj J).2 x (ld U)
 rw[ai]
 unfold ofList quot pC
 generalize bX (ba C) (order d 0)=UR at DR
 congr 1
 ·rw[List.map_map]
  exact List.map_congr_left fun x U=>(DQ x (DR x U)).acc
 ·rw[List.map_map]
  refine List.map_congr_left fun x U=>?_
  show rowOf _ (hd d C (ba C x))=_
  rw[av x (DR x U)]
structure DS (d:ao) (s:Nat) (c:Nat→Nat):Prop where
 iff:∀x y,x∈order d s→y∈order d s→(c x=c y↔jN d x y)
end Go.aB
namespace Go.aB
open Go
def cF (d:ao) (s:Nat):ao:=quot d (ba (rounds d (d.accept.length+1) (dW d))) s
theorem DT {d:ao} (aj:d.ok) {s:Nat} (al:s<d.accept.length) {c:Nat→Nat} (ah:DS d s c):quot d c s=cF d s:=by
 have aL:=(rl aj al).2
 exact UP (xR aj al) fun x y U aA=>(ah.iff x y U aA).trans (xQ aj (by omega) (aL x U) (aL y aA)).symm
theorem vo {d:ao} (aj:d.ok) (J:1≤d.accept.length):xJ d=cF d 0:=UQ aj J
def dN (O:List Nat) (i:Nat):Nat:=O.getD i 0
theorem xS {O:List Nat} {i:Nat} (h:i<O.length):dN O i∈O:=by
 unfold dN
 rw[List.getD_eq_getElem?_getD,List.getElem?_eq_getElem h]
 exact List.getElem_mem h
theorem oB {O:List Nat} {x:Nat} (h:x∈O):dN O (O.idxOf x)=x:=by
 unfold dN
 have ai:=List.idxOf_lt_length_of_mem h
 rw[List.getD_eq_getElem?_getD,List.getElem?_eq_getElem ai]
 exact List.getElem_idxOf ai
theorem DU {O:List Nat} (aC:O.Nodup) {i:Nat} (h:i<O.length):O.idxOf (dN O i)=i:=by
 unfold dN
 rw[List.getD_eq_getElem?_getD,List.getElem?_eq_getElem h]
 exact aC.idxOf_getElem i h
abbrev lf:=Nat×Nat×Nat×Nat
def l8 (d:ao) (O k:List Nat) (i:Nat):lf:=(ba k i,ba k (O.idxOf (d.aN (dN O i)).1),ba k (O.idxOf (d.aN (dN O i)).2.1),ba k (O.idxOf (d.aN (dN O i)).2.2))
def eJ (d:ao) (O k:List Nat):List lf:=(List.range O.length).map (l8 d O k)
def ij (ke:List lf):List lf:=ke.foldl ins []
def pD (L:List lf) (x:lf):Nat:=@List.idxOf lf instBEqOfDecidableEq x L
def jq (d:ao) (O k:List Nat):List Nat:=(eJ d O k).map (pD (ij (eJ d O k)))
theorem lg {α:Type} [DecidableEq α]:∀(X l:List α),l <+: X.foldl ins l:=by
 intro X
 induction X with
 | nil=>intro l;exact List.prefix_refl l
 | cons x X ag=>intro l;exact(ig l x).trans (ag _)
theorem US {α:Type} [DecidableEq α]:∀{X l:List α} {y:α},y∈l∨y∈X→y∈X.foldl ins l:=by
 intro X
 induction X with
 | nil=>intro l y h;exact h.resolve_right (by simp)
 | cons x X ag=>
   intro l y h
   refine ag (l:=ins l x) ?_
   rcases h with h | h
   ·exact .inl (vj.2 (.inl h))
   ·rcases List.mem_cons.1 h with rfl | h
    ·exact .inl (k9 _ _)
    ·exact .inr h
theorem UT {α β:Type} [DecidableEq β] {c:α→Nat} {f:α→β} {P:α→Prop} (h:∀x y,P x→P y→(c x=c y↔f x=f y)):∀(X l:List α),(∀x∈l,P x)→(∀x∈X,P x)→(fO c l X).map f=(X.map f).foldl ins (l.map f):=by
 intro X
 induction X with
 | nil=>intro l _ _;rfl
 | cons x X ag=>
   intro l ai bO
   have U:=bO x (List.mem_cons_self ..)
   have vn:∀y∈fN c l x,P y:=fun y aA=>by
    rcases Ay aA with aA | rfl
    ·exact ai y aA
    ·exact U
   show(fO c (fN c l x) X).map f=(X.map f).foldl ins (ins (l.map f) (f x))
   rw[ag _ vn fun y aA=>bO y (List.mem_cons_of_mem _ aA)]
   congr 1
   by_cases bj:∃y∈l,c y=c x
   ·obtain⟨y,aA,e⟩:=bj
    rw[qj ⟨y,aA,e⟩,UU (List.mem_map.2 ⟨y,aA,(h y x (ai y aA) U).1 e⟩)]
   ·rw[pA bj,List.map_append]
    unfold ins
    rw[if_neg]
    ·rfl
    ·intro hm
     obtain⟨y,aA,e⟩:=List.mem_map.1 hm
     exact bj ⟨y,aA,(h y x (ai y aA) U).2 e⟩
where UU {α:Type} [DecidableEq α] {l:List α} {x:α} (h:x∈l):ins l x=l:=if_pos h
theorem UW {α:Type} [BEq α] [LawfulBEq α] {L:List α} {x y:α} (U:x∈L) (aA:y∈L) (h:L.idxOf x=L.idxOf y):x=y:=by
 have J:=List.getElem_idxOf (List.idxOf_lt_length_of_mem U)
 have aa:=List.getElem_idxOf (List.idxOf_lt_length_of_mem aA)
 rw[←J,←aa]
 congr 1
theorem UX {L:List lf} {x y:lf} (U:x∈L) (aA:y∈L) (h:pD L x=pD L y):x=y:=@UW lf instBEqOfDecidableEq inferInstance L x y U aA h
theorem I0 (d:ao) (O k:List Nat):(jq d O k).length=O.length:=by simp[jq,eJ]
theorem I1 (d:ao) (O k:List Nat) {i:Nat} (h:i<O.length):ba (jq d O k) i=pD (ij (eJ d O k)) (l8 d O k i):=by
 unfold ba jq eJ
 rw[List.getD_eq_getElem?_getD,List.getElem?_map,List.getElem?_map,List.getElem?_range h]
 rfl
theorem DV (d:ao) (O k:List Nat) {i:Nat} (h:i<O.length):l8 d O k i∈ij (eJ d O k):=
 US (.inr (List.mem_map.2 ⟨i,List.mem_range.2 h,rfl⟩))
theorem I2 (d:ao) (O k:List Nat) {i j:Nat} (hi:i<O.length) (au:j<O.length):ba (jq d O k) i=ba (jq d O k) j↔l8 d O k i=l8 d O k j:=by
 rw[I1 d O k hi,I1 d O k au]
 constructor
 ·exact UX (DV d O k hi) (DV d O k au)
 ·intro h;rw[h]
theorem AB (d:ao) (O k:List Nat):(ij (eJ d O k)).length=(bX (ba (jq d O k)) (List.range O.length)).length:=by
 have:=UT (c:=ba (jq d O k)) (f:=l8 d O k) (P:=(·<O.length)) (fun x y U aA=>I2 d O k U aA) (List.range O.length) [] (by simp) (fun x U=>List.mem_range.1 U)
 have e:ij (eJ d O k)=(bX (ba (jq d O k)) (List.range O.length)).map (l8 d O k):=this.symm
 rw[e,List.length_map]
def tf (d:ao) (O k:List Nat) (r:Nat):Prop:=k.length=O.length∧∀i j,i<O.length→j<O.length→(ba k i=ba k j↔e9 d r (dN O i) (dN O j))
theorem iV {O:List Nat} {x:Nat} (h:x∈O):O.idxOf x<O.length:=List.idxOf_lt_length_of_mem h
theorem tf.step {d:ao} {O k:List Nat} {r:Nat} (eh:ar6 d O) (h:tf d O k r):tf d O (jq d O k) (r+1):=by
 refine⟨I0 d O k,fun i j hi au=>?_⟩
 rw[I2 d O k hi au]
 have ci:=eh _ (xS hi)
 have vp:=eh _ (xS au)
 unfold l8
 simp only[Prod.mk.injEq]
 rw[h.2 i j hi au,h.2 _ _ (iV ci.1) (iV vp.1),h.2 _ _ (iV ci.2.1) (iV vp.2.1),h.2 _ _ (iV ci.2.2) (iV vp.2.2),oB ci.1,oB vp.1,oB ci.2.1,oB vp.2.1,oB ci.2.2,oB vp.2.2]
 rfl
def oC (d:ao) (O:List Nat) (k:List Nat) (eA:Nat):Prop:=(∃r,tf d O k r)∧(eA=0∨eA=(bX (ba k) (List.range O.length)).length)
theorem oC.len {d:ao} {O k:List Nat} {eA:Nat} (h:oC d O k eA):k.length=O.length:=by
 obtain⟨⟨r,h⟩,_⟩:=h;exact h.1
theorem oC.next {d:ao} {O k:List Nat} {eA:Nat} (eh:ar6 d O) (h:oC d O k eA):oC d O (jq d O k) (ij (eJ d O k)).length:=by
 obtain⟨⟨r,h⟩,_⟩:=h
 exact⟨⟨r+1,h.step eh⟩,.inr (AB d O k)⟩
theorem tf.I3 {d:ao} {O k bI:List Nat} {r:Nat} (h:tf d O k r) (aZ:tf d O bI (r+1)):∀x y,x∈List.range O.length→y∈List.range O.length→ba bI x=ba bI y→ba k x=ba k y:=by
 intro x y U aA e
 have U:=List.mem_range.1 U
 have aA:=List.mem_range.1 aA
 rw[aZ.2 x y U aA]at e
 rw[h.2 x y U aA]
 exact e.1
theorem I4 {d:ao} {O k:List Nat} (J:0<O.length):0<(ij (eJ d O k)).length:=List.length_pos_of_mem (DV d O k J)
theorem I5 (d:ao) (O k:List Nat):(ij (eJ d O k)).length≤O.length:=by
 rw[AB]
 have:=xN (ba (jq d O k)) (List.range O.length)
 simpa using this
theorem oC.UY {d:ao} {O k:List Nat} {eA:Nat} (eh:ar6 d O) (J:0<O.length) (h:oC d O k eA) (aY:(ij (eJ d O k)).length≠eA):eA<(ij (eJ d O k)).length:=by
 obtain⟨⟨r,h⟩,ah⟩:=h
 have arM:=I4 (d:=d) (k:=k) J
 rcases ah with rfl | rfl
 ·exact arM
 ·have:=IP (h.I3 (h.step eh))
  rw[←AB]at this
  omega
theorem oC.ends {d:ao} {O k:List Nat} {eA:Nat} (eh:ar6 d O) (J:0<O.length) (h:oC d O k eA) (he:(ij (eJ d O k)).length=eA):∀i j,i<O.length→j<O.length→(ba (jq d O k) i=ba (jq d O k) j↔jN d (dN O i) (dN O j)):=by
 obtain⟨⟨r,h⟩,ah⟩:=h
 have arM:=I4 (d:=d) (k:=k) J
 have ah:=ah.resolve_left (by omega)
 have al:=h.step eh
 have aE:=IQ (h.I3 al) (by rw[←AB,he,ah];exact Nat.le_refl _)
 intro i j hi au
 rw[al.2 i j hi au]
 constructor
 rotate_left
 ·intro h;exact h _
 intro he
 refine IW eh (k:=r) ?_ _ _ (xS hi) (xS au) he.1
 intro p q arM e7 e
 have aR:=oB arM
 have a7:=oB e7
 rw[←aR,←a7]at e⊢
 rw[←h.2 _ _ (iV arM) (iV e7)]at e
 exact(al.2 _ _ (iV arM) (iV e7)).1 (aE _ _ (List.mem_range.2 (iV arM)) (List.mem_range.2 (iV e7)) e)
def l9 (O k:List Nat):List Nat:=bX (ba k) (List.range O.length)
def AD (d:ao) (O k:List Nat) (i:Nat):Nat×Nat×Nat:=rowOf ((l9 O k).map (ba k)) (ba k (O.idxOf (d.aN (dN O i)).1),ba k (O.idxOf (d.aN (dN O i)).2.1),ba k (O.idxOf (d.aN (dN O i)).2.2))
def AE (d:ao) (O k:List Nat):ao:=⟨(l9 O k).map fun i=>bB d (dN O i),(l9 O k).map (AD d O k)⟩
theorem I6 {α β:Type} (c:β→Nat) (f:α→β):∀(X l:List α),fO c (l.map f) (X.map f)=(fO (fun x=>c (f x)) l X).map f:=by
 intro X
 induction X with
 | nil=>intro l;rfl
 | cons x X ag=>
   intro l
   show fO c (fN c (l.map f) (f x)) (X.map f)=(fO _ (fN (fun x=>c (f x)) l x) X).map f
   rw[←ag]
   congr 1
   unfold fN
   rw[List.any_map]
   have:(fun y=>c y==c (f x))∘f=fun y=>c (f y)==c (f x):=rfl
   rw[this]
   split
   ·rfl
   ·rw[List.map_append];rfl
theorem UZ (O:List Nat):(List.range O.length).map (dN O)=O:=by
 apply List.ext_getElem
 ·simp
 ·intro i J aa
  rw[List.getElem_map,List.getElem_range]
  unfold dN
  rw[List.getD_eq_getElem?_getD,List.getElem?_eq_getElem aa]
  rfl
theorem U0 {d:ao} (aj:d.ok) {s:Nat} (al:s<d.accept.length) {k:List Nat} (ay:∀i j,i<(order d s).length→j<(order d s).length→(ba k i=ba k j↔jN d (dN (order d s) i) (dN (order d s) j))):AE d (order d s) k=cF d s:=by
 have aC:=(rl aj al).1
 rw[←DT aj al (c:=fun x=>ba k ((order d s).idxOf x))]
 ·unfold quot AE
  generalize order d s=O at ay aC
  have bH:bX (fun x=>ba k (O.idxOf x)) O=(l9 O k).map (dN O):=by
   have J:=I6 (fun x=>ba k (O.idxOf x)) (dN O) (List.range O.length) []
   rw[UZ]at J
   refine J.trans ?_
   congr 1
   exact IM fun x y U aA=>by rw[DU aC (List.mem_range.1 U),DU aC (List.mem_range.1 aA)]
  rw[bH]
  unfold pC
  have ai:∀i∈l9 O k,i<O.length:=fun i hi=>List.mem_range.1 (ld hi)
  have aR:((l9 O k).map (dN O)).map (fun x=>ba k (O.idxOf x))=(l9 O k).map (ba k):=by
   rw[List.map_map]
   exact List.map_congr_left fun i hi=>by show ba k (O.idxOf (dN O i))=_;rw[DU aC (ai i hi)]
  rw[aR,List.map_map,List.map_map]
  rfl
 ·refine⟨fun x y U aA=>?_⟩
  show ba k ((order d s).idxOf x)=ba k ((order d s).idxOf y)↔_
  rw[ay _ _ (iV U) (iV aA),oB U,oB aA]
end Go.aB
namespace Go.aB
open Go
attribute [go_sem] true_or or_true List.flatten_cons List.flatten_nil
def hg {α:Type} (enc:α→V):Nat→List α→List (V×V)
 | _,[]=>[]
 | i,x::l=>(enc x,aQ i)::hg enc (i+1) l
theorem DW {α:Type} (enc:α→V):∀(l:List α) (i:Nat),(hg enc i l).length=l.length:=by
 intro l
 induction l with
 | nil=>intro i;rfl
 | cons x l ag=>intro i;show(hg enc (i+1) l).length+1=_;rw[ag];rfl
theorem xT {α:Type} [DecidableEq α] {P:Program} {kt:TypeId} {enc:α→V} (xG:∀a b,ea P kt (enc a) (enc b)=some (decide (a=b))) (x:α):∀(l:List α) (i:Nat),qL P kt (enc x) (hg enc i l)=some (if x∈l then some (aQ (i+l.idxOf x))else none):=by
 intro l
 induction l with
 | nil=>intro i;rfl
 | cons y l ag=>
   intro i
   show(match ea P kt (enc x) (enc y)with
    | some true=>some (some (aQ i))
    | some false=>qL P kt (enc x) (hg enc (i+1) l)
    | none=>none)=_
   rw[xG]
   by_cases h:x=y
   ·subst h
    rw[decide_eq_true rfl,if_pos (List.mem_cons_self ..),List.idxOf_cons_self]
    rfl
   ·rw[decide_eq_false h]
    dsimp only
    rw[ag,List.idxOf_cons,beq_eq_false_iff_ne.2 fun e=>h e.symm]
    by_cases hm:x∈l
    ·rw[if_pos hm,if_pos (List.mem_cons_of_mem _ hm)]
     have:i+1+l.idxOf x=i+(l.idxOf x+1):=by omega
     rw[this]
     rfl
    ·rw[if_neg hm,if_neg]
     intro ah
     rcases List.mem_cons.1 ah with e | e
     ·exact h e
     ·exact hm e
theorem xU {α:Type} [DecidableEq α] {P:Program} {kt:TypeId} {enc:α→V} (xG:∀a b,ea P kt (enc a) (enc b)=some (decide (a=b))) {x:α}:∀(l:List α) (i:Nat),x∉l→qM P kt (enc x) (aQ (i+l.length)) (hg enc i l)=some (hg enc i (l++[x])):=by
 intro l
 induction l with
 | nil=>intro i _;rfl
 | cons y l ag=>
   intro i U
   have h:¬x=y:=fun e=>U (by rw[e];exact List.mem_cons_self ..)
   have hm:x∉l:=fun e=>U (List.mem_cons_of_mem _ e)
   show(match ea P kt (enc x) (enc y)with
    | some true=>some ((enc x,aQ (i+(l.length+1)))::hg enc (i+1) l)
    | some false=>(qM P kt (enc x) (aQ (i+(l.length+1))) (hg enc (i+1) l)).map ((enc y,aQ i)::·)
    | none=>none)=_
   rw[xG,decide_eq_false h]
   dsimp only
   have:i+(l.length+1)=i+1+l.length:=by omega
   rw[this,ag (i+1) hm]
   rfl
def dp (t:Nat×Nat×Nat):List Nat:=[t.1,t.2.1,t.2.2]
theorem iH (t:Nat×Nat×Nat):(dp t).length=3:=rfl
theorem I7 (l:List Nat) (t:Nat×Nat×Nat):(dp t).foldl ins l=b0 l t:=rfl
theorem nz {α:Type} {l:List α} {i:Nat} (h:i<l.length):l.take (i+1)=l.take i++[l[i]]:=(List.take_append_getElem h).symm
theorem pE {α β:Type} (f:β→α→β) (b:β) {l:List α} {i:Nat} (h:i<l.length):(l.take (i+1)).foldl f b=f ((l.take i).foldl f b) l[i]:=by
 rw[nz h,List.foldl_append];rfl
def vq (t:lf):V:=.agg [aQ t.1,aQ t.2.1,aQ t.2.2.1,aQ t.2.2.2]
theorem U1 (a b:lf):(((a.1:Int)==b.1)&&(((a.2.1:Int)==b.2.1)&&(((a.2.2.1:Int)==b.2.2.1)&&(((a.2.2.2:Int)==b.2.2.2)&&true))))=decide (a=b):=by
 obtain⟨aT,a2,a3,a4⟩:=a
 obtain⟨bU,cv,dn,ed⟩:=b
 simp only[kh,Prod.mk.injEq,Bool.and_true]
 rw[Bool.eq_iff_iff]
 simp
def vr (d:ao) (q:Nat):V:=s7 (bB d q)
theorem U2 (d:ao) (O:List Nat):O.map (vr d)=(O.map fun q=>if bB d q=true then 1 else 0).map aQ:=by
 rw[List.map_map];rfl
theorem U3 (d:ao) (O:List Nat):oC d O (O.map fun q=>if bB d q=true then 1 else 0) 0:=by
 refine⟨⟨0,by simp,fun i j hi au=>?_⟩,.inl rfl⟩
 have e:∀i,i<O.length→ba (O.map fun q=>if bB d q=true then 1 else 0) i=if bB d (dN O i)=true then 1 else 0:=by
  intro i hi
  unfold ba dN
  rw[List.getD_eq_getElem?_getD,List.getD_eq_getElem?_getD,List.getElem?_map,List.getElem?_eq_getElem hi]
  rfl
 rw[e i hi,e j au]
 show _↔bB d (dN O i)=bB d (dN O j)
 cases bB d (dN O i)<;>cases bB d (dN O j)<;>simp
def rm (d:ao) (O k:List Nat) (i:Nat):V:=aQ (pD (ij (eJ d O k)) (l8 d O k i))
theorem U4 (d:ao) (O k:List Nat):(List.range O.length).map (rm d O k)=(jq d O k).map aQ:=by
 unfold jq eJ
 rw[List.map_map,List.map_map]
 rfl
theorem U5 {O:List Nat} {i:Nat} (h:i<O.length) (v:V):(O.map aQ).getD i v=aQ (dN O i):=iF h v
theorem U6 {O:List Nat} {i:Nat} (h:i<O.length):dN O i=O[i]:=by
 unfold dN
 rw[List.getD_eq_getElem?_getD,List.getElem?_eq_getElem h];rfl
theorem U7 {l L:List lf} {x:lf} (h:l <+: L) (U:x∈l):pD L x=pD l x:=DG h U
theorem I8 (d:ao) (O k:List Nat):(eJ d O k).length=O.length:=by simp[eJ]
theorem I9 (d:ao) (O k:List Nat) {i:Nat} (h:i<(eJ d O k).length):(eJ d O k)[i]=l8 d O k i:=by simp[eJ]
end Go.aB
namespace Go.aB
open Go
section
variable {α:Type} [DecidableEq α]
def cm (L:List α) (x:α):Nat:=@List.idxOf α instBEqOfDecidableEq x L
def kJ (L:List α) (t:α×α×α):Nat×Nat×Nat:=(cm L t.1,cm L t.2.1,cm L t.2.2)
def bD (t:α×α×α):List α:=[t.1,t.2.1,t.2.2]
theorem kj {vt:Type} (t:vt×vt×vt):(bD t).length=3:=rfl
theorem AF (l:List α) (t:α×α×α):(bD t).foldl ins l=b0 l t:=rfl
def eX (succ:α→α×α×α) (most:Nat) (s:α):List α:=eF succ (most+1) [s] 0
def er (succ:α→α×α×α) (acc:α→Bool) (L:List α):ao:=⟨L.map acc,L.map fun x=>kJ L (succ x)⟩
theorem AG {l L:List α} {x:α} (h:l <+: L) (U:x∈l):cm L x=cm l x:=by
 have e:@List.idxOf α instBEqOfDecidableEq x L=@List.idxOf α instBEqOfDecidableEq x l:=DG h U
 exact e
theorem AH {L:List α} {x:α} (h:x∈L):cm L x<L.length:=by
 unfold cm
 exact List.idxOf_lt_length_of_mem h
end
attribute [go_sem] Bool.not_eq_true
end Go.aB
namespace Go.aB
theorem Ja {α:Type} [DecidableEq α] {m:List α} {y:α} (h:y∉m):cm (m++[y]) y=m.length:=by
 unfold cm
 rw[List.idxOf_append,if_neg h]
 simp
theorem Jb {α:Type} (f:α→V) (l:List α) (x:α):l.map f++[f x]=(l++[x]).map f:=by rw[List.map_append];rfl
end Go.aB
namespace Go.aB
section
variable {α:Type} [DecidableEq α]
def kK (acc:α→Bool) (x:α):V:=B (acc x)
def hh (L:List α) (y:α):V:=aQ (cm L y)
def kL (succ:α→α×α×α) (L:List α) (x:α):V:=bu (kJ L (succ x))
theorem xV {vt:Type} (acc:vt→Bool) (l:List vt):l.map (kK acc)=(l.map acc).map B:=by rw[List.map_map];rfl
theorem xW (succ:α→α×α×α) (L l:List α):l.map (kL succ L)=(l.map fun x=>kJ L (succ x)).map bu:=by rw[List.map_map];rfl
end
end Go.aB
namespace Go.aB
theorem U8 (d:Nat) (v:V) (T:Nat→V) (B:Nat→Option ax) (O:List (Nat→Option ax)) (R:Array ResultVar) (F N:Nat):gf (some d) {t:=T,b:=B,o:=O,r:=R,f:=F,n:=N} (some {t:=ae T d v,b:=B,o:=O,r:=R,f:=F,n:=N})=some v:=by
 have e:ae T d v d=v:=by simp[ae]
 refine(Ik d _ (congrArg (fun u=>({t:=ae T d u,b:=B,o:=O,r:=R,f:=F,n:=N}:ab)) e.symm)).trans ?_
 exact congrArg some e
attribute [go_sem] U8
end Go.aB
namespace Go.aB
open Go
theorem U9 {L:List Nat} {t:Nat×Nat×Nat} (h:pB t L):tb (rowOf L t) L.length:=⟨List.idxOf_lt_length_of_mem h.1,List.idxOf_lt_length_of_mem h.2.1,List.idxOf_lt_length_of_mem h.2.2⟩
theorem Va {d:ao} (aj:d.ok) {s:Nat} (al:s<d.accept.length) (c:Nat→Nat):(quot d c s).ok∧1≤(quot d c s).accept.length:=by
 have bO:=xR aj al
 have cQ:=DP d s
 unfold quot pC
 generalize eh:order d s=O at*
 have hm:∀y∈O,c y∈(bX c O).map c:=fun y aA=>ta.2 ⟨y,aA,rfl⟩
 refine⟨⟨by simp,?_⟩,?_⟩
 ·intro t aK
  obtain⟨q,aE,rfl⟩:=List.mem_map.1 aK
  have aC:=bO q (ld aE)
  have:=U9 (L:=(bX c O).map c) (t:=cS c (d.aN q)) ⟨hm _ aC.1,hm _ aC.2.1,hm _ aC.2.2⟩
  simp only[List.length_map]at this⊢
  exact this
 ·simp only[List.length_map]
  obtain⟨z,aD,_⟩:=vm (c:=c) cQ
  exact List.length_pos_of_mem aD
theorem xX {d:ao} (aj:d.ok) {s:Nat} (al:s<d.accept.length):(cF d s).ok∧1≤(cF d s).accept.length:=Va aj al _
theorem Jc {d:ao} (aj:d.ok) {s:Nat} (al:s<d.accept.length):(cF d s).accept.length≤d.accept.length:=by
 unfold cF quot pC
 simp only[List.length_map]
 exact Nat.le_trans (xN _ _) (UN aj al)
def fw (d:ao):Option ao:=if(cF d 0).accept.length≤40 then some (cF d 0)else none
structure bG (d:ao):Prop where
 ok:d.ok
 pos:1≤d.accept.length
 le:d.accept.length≤40
theorem AI {d e:ao} (aj:d.ok) (J:1≤d.accept.length) (h:fw d=some e):bG e:=by
 unfold fw at h
 split at h
 ·rename_i ai
  obtain rfl:=Option.some.inj h
  exact⟨(xX aj J).1,(xX aj J).2,ai⟩
 ·cases h
def bz:Option ao→V
 | some d=>.tup [d.enc,.bool true]
 | none=>.tup [.agg [.slc false 1 [],.slc false 1 []],.bool false]
def ao.cU (d:ao):eQ:=⟨d.accept,d.next.map fun t=>[(t.1:Int),t.2.1,t.2.2]⟩
theorem ao.jO (d:ao):d.cU.enc=d.enc:=by
 unfold ao.cU eQ.enc ao.enc
 rw[List.map_map]
 rfl
theorem Jd {d:ao} (aj:d.ok):iR d.cU=(decide (1≤d.accept.length)&&decide (d.accept.length≤40)):=by
 unfold iR ao.cU
 have aR:((d.next.map fun t=>[(t.1:Int),t.2.1,t.2.2]).length:Int)==(d.accept.length:Int):=by rw[List.length_map,aj.1];simp
 have a7:(d.next.map fun t=>[(t.1:Int),t.2.1,t.2.2]).all (oA d.accept.length)=true:=by
  rw[List.all_eq_true]
  intro r aI
  obtain⟨t,aK,rfl⟩:=List.mem_map.1 aI
  obtain⟨J,aa,ar⟩:=aj.2 t aK
  unfold oA
  simp
  omega
 rw[aR,a7]
 have g1:decide (1≤(d.accept.length:Int))=decide (1≤d.accept.length):=by
  by_cases h:1≤d.accept.length
  ·rw[decide_eq_true h,decide_eq_true (by omega)]
  ·rw[decide_eq_false h,decide_eq_false (by omega)]
 have g2:decide ((d.accept.length:Int)≤40)=decide (d.accept.length≤40):=by
  by_cases h:d.accept.length≤40
  ·rw[decide_eq_true h,decide_eq_true (by omega)]
  ·rw[decide_eq_false h,decide_eq_false (by omega)]
 rw[g1,g2]
 simp
theorem bG.valid {d:ao} (h:bG d):iR d.cU=true:=by
 rw[Jd h.ok,decide_eq_true h.pos,decide_eq_true h.le]
 rfl
theorem Je {d:ao}:∀r∈d.cU.next,r.length≤1048576:=by
 intro r aI
 obtain⟨t,_,rfl⟩:=List.mem_map.1 aI
 show 3≤_
 decide
def ik (a b:ao) (x:Nat×Nat):(Nat×Nat)×(Nat×Nat)×(Nat×Nat):=(((a.aN x.1).1,(b.aN x.2).1),((a.aN x.1).2.1,(b.aN x.2).2.1),((a.aN x.1).2.2,(b.aN x.2).2.2))
def vu (kind:Int) (a b:ao) (x:Nat×Nat):Bool:=if kind=6 then bB a x.1||bB b x.2 else bB a x.1&&bB b x.2
def lh (a b:ao) (x:Nat×Nat):Prop:=x.1<a.accept.length∧x.2<b.accept.length
theorem AJ {a b:ao} (aO:a.ok) (ad:b.ok) {x:Nat×Nat} (h:lh a b x):lh a b (ik a b x).1∧lh a b (ik a b x).2.1∧lh a b (ik a b x).2.2:=by
 have J:=ao.ie aO h.1
 have aa:=ao.ie ad h.2
 exact⟨⟨J.1,aa.1⟩,⟨J.2.1,aa.2.1⟩,⟨J.2.2,aa.2.2⟩⟩
def kM (a b:ao):List (Nat×Nat):=eX (ik a b) 1600 (0,0)
def gQ (kind:Int) (a b:ao):ao:=er (ik a b) (vu kind a b) (kM a b)
section
variable {α:Type} [DecidableEq α]
theorem DX {f:α→α×α×α} {Q:α→Prop} (aJ:∀x,Q x→Q (f x).1∧Q (f x).2.1∧Q (f x).2.2):∀(arP:Nat) (l:List α) (i:Nat),l.Nodup→(∀x∈l,Q x)→(eF f arP l i).Nodup∧∀x∈eF f arP l i,Q x:=by
 intro arP
 induction arP with
 | zero=>intro l i J aa;exact⟨J,aa⟩
 | succ arP ag=>
   intro l i J aa
   by_cases hi:i<l.length
   ·rw[lb hi]
    have aE:=aJ _ (aa _ (List.getElem_mem hi))
    refine ag _ _ (rh J) fun x U=>?_
    rcases la.1 U with U | rfl | rfl | rfl
    ·exact aa x U
    ·exact aE.1
    ·exact aE.2.1
    ·exact aE.2.2
   ·rw[ki hi];exact⟨J,aa⟩
theorem Vb {f:α→α×α×α} {most:Nat}:∀(arP:Nat) (l:List α) (i:Nat),most<arP+i→(∀k,(ay:k<l.length)→k<i→(f l[k]).1∈l∧(f l[k]).2.1∈l∧(f l[k]).2.2∈l)→(eF f arP l i).length≤most→∀x∈eF f arP l i,(f x).1∈eF f arP l i∧(f x).2.1∈eF f arP l i∧(f x).2.2∈eF f arP l i:=by
 intro arP
 induction arP with
 | zero=>
   intro l i J aP ai x U
   obtain⟨k,ay,rfl⟩:=List.getElem_of_mem (show x∈l from U)
   have hJ:l.length≤most:=ai
   exact aP k ay (by omega)
 | succ arP ag=>
   intro l i J aP ai
   by_cases hi:i<l.length
   rotate_left
   ·rw[ki hi]
    intro x U
    obtain⟨k,ay,rfl⟩:=List.getElem_of_mem U
    exact aP k ay (by omega)
   rw[lb hi]at ai⊢
   have dc:=fG l (f l[i])
   refine ag _ _ (by omega) ?_ ai
   intro k ay uD
   have mM:k<l.length:=by omega
   have e:(b0 l (f l[i]))[k]=l[k]:=by
    obtain⟨m,hm⟩:=dc
    simp only[←hm]
    exact List.getElem_append_left mM
   rw[e]
   by_cases e4:k<i
   ·have:=aP k mM e4
    exact⟨dc.subset this.1,dc.subset this.2.1,dc.subset this.2.2⟩
   ·obtain rfl:k=i:=by omega
    exact⟨la.2 (.inr (.inl rfl)),la.2 (.inr (.inr (.inl rfl))),la.2 (.inr (.inr (.inr rfl)))⟩
theorem DY {f:α→α×α×α} {most:Nat} {s:α} (h:(eX f most s).length≤most):∀x∈eX f most s,(f x).1∈eX f most s∧(f x).2.1∈eX f most s∧(f x).2.2∈eX f most s:=
 Vb (most:=most) _ _ _ (by omega) (fun k ay h=>by omega) h
theorem kk {f:α→α×α×α} {acc:α→Bool} {most:Nat} {s:α} (h:(eX f most s).length≤most):(er f acc (eX f most s)).ok∧1≤(er f acc (eX f most s)).accept.length∧(er f acc (eX f most s)).accept.length≤most:=by
 have ah:=DY h
 refine⟨⟨by simp[er],?_⟩,?_,by simpa[er]using h⟩
 ·intro t aK
  obtain⟨x,U,rfl⟩:=List.mem_map.1 aK
  have:=ah x U
  simp only[er,List.length_map]
  exact⟨AH this.1,AH this.2.1,AH this.2.2⟩
 ·simp only[er,List.length_map]
  exact Nat.le_trans (by simp) (iS f (most+1) [s] 0).length_le
end
theorem Vc {l:List (Nat×Nat)} {n m:Nat} (aC:l.Nodup) (h:∀x∈l,x.1<n∧x.2<m):l.length≤n*m:=by
 have J:(l.map fun x=>x.1*m+x.2).Nodup:=by
  rw[List.nodup_iff_pairwise_ne,List.pairwise_map]
  refine(List.nodup_iff_pairwise_ne.1 aC).imp_of_mem ?_
  intro x y U aA aY e
  have z6:=(h x U).2
  have Vd:=(h y aA).2
  have hm:0<m:=by omega
  have aR:x.1=y.1:=by
   have aT:(x.1*m+x.2) / m=x.1:=by rw[Nat.add_comm,Nat.add_mul_div_right _ _ hm,Nat.div_eq_of_lt z6,Nat.zero_add]
   have a2:(y.1*m+y.2) / m=y.1:=by rw[Nat.add_comm,Nat.add_mul_div_right _ _ hm,Nat.div_eq_of_lt Vd,Nat.zero_add]
   rw[←aT,e,a2]
  apply aY
  rw[aR]at e
  exact Prod.ext aR (by omega)
 have aa:=nv J (n:=n*m) (fun z aD=>by
  obtain⟨x,U,rfl⟩:=List.mem_map.1 aD
  have:=h x U
  calc x.1*m+x.2<x.1*m+m:=by omega
   _=(x.1+1)*m:=by rw[Nat.succ_mul]
   _≤n*m:=Nat.mul_le_mul_right _ this.1)
 simpa using aa
theorem xY {a b:ao} (aO:bG a) (ad:bG b):(kM a b).length≤1600:=by
 have:=DX (f:=ik a b) (Q:=lh a b) (fun x U=>AJ aO.ok ad.ok U) 1601 [(0,0)] 0 (by simp) (by
  intro x U
  rw[List.mem_singleton.1 U]
  exact⟨aO.pos,ad.pos⟩)
 have J:=Vc (n:=a.accept.length) (m:=b.accept.length) this.1 this.2
 have aa:a.accept.length*b.accept.length≤40*40:=Nat.mul_le_mul aO.le ad.le
 exact Nat.le_trans J aa
theorem rn {kind:Int} {a b:ao} (aO:bG a) (ad:bG b):(gQ kind a b).ok∧1≤(gQ kind a b).accept.length∧(gQ kind a b).accept.length≤1600:=kk (xY aO ad)
end Go.aB
