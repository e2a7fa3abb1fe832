/- The operations that only compute: places, parts, lengths, loads. The operations that only compute: cuts, conversions, functions, parts of a tuple, loads. Objects that change: variables in memory, rows that are written. -/
import Derived.Laws.BytesString
import Derived.Laws.Tables
import Derived.Laws.CopyRow
import Derived.Test.YtlecddobnippmaaGreatEvB
set_option linter.unusedVariables false
set_option linter.unusedSimpArgs false
namespace Go.aB
open Go
variable {P:Program} {G:bh} {s:ab} {a:Act} {w:World} {o:Oper}
variable {d:Option Nat} {ty:TypeId} {pos:String} {af:Array Edge} {gd:Option (Nat×Bool)}
theorem add_eq (b o n:Nat):(⟨b,o,none⟩:Addr).add n=⟨b,o+n,none⟩:=by
 unfold Addr.add
 by_cases h:n=0
 ·subst h;simp
 ·simp[h]
theorem jC {t:TypeId} (h:hp P t=true):∃e,P.underlying t=some (.slice e)∧elemOf P t=e:=by
 unfold hp at h
 split at h
 ·rename_i e he
  exact⟨e,he,by simp[elemOf,he]⟩
 ·cases h
theorem wE {t:TypeId} (h:isStr P t=true):P.underlying t=some .string:=by
 unfold isStr at h
 split at h
 ·assumption
 ·cases h
theorem aH.sa {S β} {sz:Nat} {l:List V} {x:Value} (h:aH S β (.slc false sz l) x):(l=[]∧∃a cap,x=.slice a 0 cap)∨∃(b o cap:Nat) (c:Nat→Nat→Value),x=.slice (some ⟨b,o,none⟩) l.length cap∧l.length≤cap∧(∀x∈l,x.flat.length=sz∧x.flat.all bM=true)∧
 (∀i j,i<l.length→j<sz→S b (o+i*sz+j)=some (c i j))∧∀i j,i<l.length→j<sz→aH S β ((l.getD i .undef).flat.getD j .undef) (c i j):=by
 cases h with
 | h5 _ a cap=>exact .inl ⟨rfl,a,cap,rfl⟩
 | slc _ _ b o cap c ah al a8 a6=>exact .inr ⟨b,o,cap,c,rfl,ah,al,a8,a6⟩
theorem uf {x:Operand} {own:Bool} {sz:Nat} {l:List V} {t:TypeId} (h:s.aM P t x=.slc own sz l):own=false:=by
 have J:=ua s P t x
 rw[h]at J
 cases own
 ·rfl
 ·cases J
theorem nT {b:Builtin} {args:Array Operand} {tys:Array TypeId} {x:Value} {w':World} (h:(builtin b tys ty (args.map fun | .const _=>true | _=>false) (args.map a.eval)).run P w=.ok (.value x) w'):
 (execOp a.eval ⟨d,.call {callee:=.builtin b,args:=args,argTypes:=tys},ty,pos,af,gd⟩).run P w=.ok (.value x) w':=by
 simp only[execOp,resolve,Sem.run_bind,Sem.run_pure,Result.andThen_ok,invoke]
 exact h
theorem ME {x:Operand} {t:TypeId} {v:V} (h:Rel G s a w) (arL:wk P s t (s.aM P t x)=some v):b5 P ⟨d,.call {callee:=.builtin .len,args:=#[x],argTypes:=#[t]},ty,pos,af,gd⟩ G s a w v s:=by
 have J:=h.aM P t x
 unfold wk at arL
 split at arL
 ·rename_i own sz l al
  split at arL
  ·rename_i aK
   obtain rfl:=Option.some.inj arL
   obtain⟨e,he,_⟩:=jC aK
   rw[al]at J
   obtain rfl:=uf al
   refine b5.pure h (x:=.int .i64 l.length) (nT ?_) (aH.int _ _) rfl (fun l e=>by cases e)
   have:∃A c,a.eval x=.slice A l.length c:=by
    rcases J.sa with⟨rfl,_,_,aa⟩ | ⟨b,o,cap,c,aa,_⟩
    ·exact⟨_,_,aa⟩
    ·exact⟨_,_,aa⟩
   obtain⟨A,c,U⟩:=this
   simp[builtin,Builtin.len_,U,run_underlying he,goInt]
  ·cases arL
 ·rename_i b al
  split at arL
  ·rename_i aK
   obtain rfl:=Option.some.inj arL
   rw[al]at J
   refine b5.pure h (x:=.int .i64 b.size) (nT ?_) (aH.int _ _) rfl (fun l e=>by cases e)
   simp[builtin,Builtin.len_,J.ky,run_underlying (wE aK),goInt]
  ·cases arL
 ·rename_i lv u n al
  split at arL
  ·rename_i aK
   obtain rfl:=Option.some.inj arL
   obtain⟨e,he,_⟩:=jC aK
   rw[al]at J
   refine b5.pure h (x:=.int .i64 n) (nT ?_) (aH.int _ _) rfl (fun l e=>by cases e)
   have:∃A c,a.eval x=.slice A n c:=by
    generalize a.eval x=y at J
    cases J
    exact⟨_,_,rfl⟩
   obtain⟨A,c,U⟩:=this
   simp[builtin,Builtin.len_,U,run_underlying he,goInt]
  ·cases arL
 ·rename_i lv u n al
  split at arL
  ·rename_i aK
   obtain rfl:=Option.some.inj arL
   obtain⟨e,he,_⟩:=jC aK
   rw[al]at J
   refine b5.pure h (x:=.int .i64 n) (nT ?_) (aH.int _ _) rfl (fun l e=>by cases e)
   have:∃A c,a.eval x=.slice A n c:=by
    generalize a.eval x=y at J
    cases J
    exact⟨_,_,rfl⟩
   obtain⟨A,c,U⟩:=this
   simp[builtin,Builtin.len_,U,run_underlying he,goInt]
  ·cases arL
 ·rename_i lv u n al
  split at arL
  ·rename_i aK
   obtain rfl:=Option.some.inj arL
   obtain⟨e,he,_⟩:=jC aK
   rw[al]at J
   refine b5.pure h (x:=.int .i64 n) (nT ?_) (aH.int _ _) rfl (fun l e=>by cases e)
   have:∃A c,a.eval x=.slice A n c:=by
    generalize a.eval x=y at J
    cases J
    exact⟨_,_,rfl⟩
   obtain⟨A,c,U⟩:=this
   simp[builtin,Builtin.len_,U,run_underlying he,goInt]
  ·cases arL
 ·rename_i lv u al
  split at arL
  ·rename_i es aK aj
   obtain rfl:=Option.some.inj arL
   rw[al]at J
   obtain⟨g,av,bA,bo,kx,ad,ai,_⟩:=h.obj lv u _ aj
   have:a.eval x=.map (some g):=by
    generalize a.eval x=y at J
    cases J
    rename_i g' bT
    rw[av]at bT
    cases bT
    rfl
   refine b5.pure h (x:=.int .i64 es.length) (nT ?_) (aH.int _ _) rfl (fun l e=>by cases e)
   simp[builtin,Builtin.len_,this,run_underlying aK,goInt,getObj,Sem.run,ad,ai]
  ·cases arL
 ·cases arL
theorem MF {x y:Operand} {tys:Array TypeId} {v:V} (h:Rel G s a w) (arL:yS (s.aM P 0 x) (s.aM P 0 y)=some v):b5 P ⟨d,.call {callee:=.builtin .min,args:=#[x,y],argTypes:=tys},ty,pos,af,gd⟩ G s a w v s:=by
 have J:=h.aM P 0 x
 have aa:=h.aM P 0 y
 unfold yS at arL
 split at arL
 ·rename_i k n bI m U aA
  split at arL
  ·rename_i ay;subst ay
   obtain rfl:=Option.some.inj arL
   rw[U]at J
   rw[aA]at aa
   refine b5.pure h (x:=.int k (if m<n then m else n)) (nT ?_) (aH.int _ _) rfl (fun l e=>by cases e)
   simp[builtin,Builtin.min_,J.fD,aa.fD,Builtin.min2]
  ·cases arL
 ·cases arL
theorem MG {x y:Operand} {tys:Array TypeId} {v:V} (h:Rel G s a w) (arL:yT (s.aM P 0 x) (s.aM P 0 y)=some v):b5 P ⟨d,.call {callee:=.builtin .max,args:=#[x,y],argTypes:=tys},ty,pos,af,gd⟩ G s a w v s:=by
 have J:=h.aM P 0 x
 have aa:=h.aM P 0 y
 unfold yT at arL
 split at arL
 ·rename_i k n bI m U aA
  split at arL
  ·rename_i ay;subst ay
   obtain rfl:=Option.some.inj arL
   rw[U]at J
   rw[aA]at aa
   refine b5.pure h (x:=.int k (if m>n then m else n)) (nT ?_) (aH.int _ _) rfl (fun l e=>by cases e)
   simp[builtin,Builtin.max_,J.fD,aa.fD,Builtin.max2]
  ·cases arL
 ·cases arL
theorem MH {x:Operand} {t:TypeId} {f:Nat} {v:V} (h:Rel G s a w) (arL:b3 P t f (s.aM P 0 x)=some v):b5 P ⟨d,.fieldAddr t x f,ty,pos,af,gd⟩ G s a w v s:=by
 have J:=h.aM P 0 x
 unfold b3 at arL
 split at arL
 ·rename_i bW hu
  split at arL
  ·rename_i fd aJ
   split at arL
   ·rename_i aD
    generalize s.aM P 0 x=u at arL J
    split at arL
    ·rename_i lv bY off
     obtain rfl:=Option.some.inj arL
     cases o3:a.eval x<;>rw[o3]at J<;>cases J
     rename_i g av
     refine b5.pure h (x:=.pointer (some ⟨g,off+fd.offset,none⟩)) ?_ (aH.ptr _ _ _ _ av) rfl (fun l e=>by cases e)
     simp only[execOp]
     refine eN ?_
     simp[Instr.fieldAt,run_underlying hu,aJ,o3,Instr.sureAddr,fieldPlace,lT aD,aD,add_eq]
    ·rename_i l
     obtain rfl:=Option.some.inj arL
     cases o3:a.eval x<;>rw[o3]at J<;>cases J
     rename_i b o c arM a8 a6
     refine b5.pure h (x:=.pointer (some ⟨b,o+fd.offset,none⟩)) ?_ (aH.imp _ _ _ (fun j=>c (fd.offset+j)) (by rw[List.all_eq_true]at arM⊢;exact fun x U=>arM x (List.mem_of_mem_drop U)) (fun j au=>?_) (fun j au=>?_)) rfl (fun l e=>by cases e)
     ·simp only[execOp]
      refine eN ?_
      simp[Instr.fieldAt,run_underlying hu,aJ,o3,Instr.sureAddr,fieldPlace,lT aD,aD,add_eq]
     ·rw[Nat.add_assoc];exact a8 _ (by simp at au;omega)
     ·have:=a6 (fd.offset+j) (by simp at au;omega)
      simpa[List.getD_eq_getElem?_getD]using this
    ·cases arL
   ·cases arL
  ·cases arL
 ·cases arL
theorem br.j3 {p:bd} {v:V} {x:Value} (h:aH G.S G.β v x):br G w p v x:=br.lQ h (by rintro sz l rfl;cases h)
theorem c7.fT {p:Nat→bd} {v:V} {x:Value} (h:aH G.S G.β v x):c7 G w p v x:=by
 cases v
 case agg l=>
  obtain⟨cs,rfl,ai,a6⟩:=h.jB
  exact⟨cs,rfl,ai,fun j au=>br.j3 (a6 j au)⟩
 all_goals exact(br.j3 (w:=w) (p:=p 0) h)
theorem bZ.fT {p:Nat→Nat→bd} {v:V} {x:Value} (h:aH G.S G.β v x):bZ G w p v x:=by
 cases v
 case tup l=>cases h
 all_goals exact(c7.fT (w:=w) (p:=p 0) h)
theorem b5.dg (h:Rel G s a w) {v:V} {x:Value} (aI:(execOp a.eval o).run P w=.ok (.value x) w) (a6:aH G.S G.β v x):b5 P o G s a w v s:=
 ⟨x,w,G,aI,h,bZ.fT a6,Fr.refl _ _ _⟩
theorem aH.FO {S β} {l:List V} {x:Value} (h:aH S β (.imp l) x):∃(b o:Nat) (c:Nat→Value),x=.pointer (some ⟨b,o,none⟩)∧l.all bM=true∧(∀j,j<l.length→S b (o+j)=some (c j))∧∀j,j<l.length→aH S β (l.getD j .undef) (c j):=by
 cases h with
 | imp _ b o c arM a8 a6=>exact⟨b,o,c,rfl,arM,a8,a6⟩
theorem aH.qT {S β} {lv t off:Nat} {x:Value} (h:aH S β (.ptr lv t off) x):∃g,β lv t=some g∧x=.pointer (some ⟨g,off,none⟩):=by
 cases h with
 | ptr _ _ _ g av=>exact⟨g,av,rfl⟩
theorem aH.za {S β} {lv t i sz:Nat} {x:Value} (h:aH S β (.gA lv t i sz) x):∃g,β lv t=some g∧x=.pointer (some ⟨g,i*sz,none⟩):=by
 cases h with
 | gA _ _ _ g _ av=>exact⟨g,av,rfl⟩
theorem aH.ug {S β} {lv t n:Nat} {x:Value} (h:aH S β (.bS lv t n) x):∃g cap,β lv t=some g∧n≤cap∧x=.slice (some ⟨g,0,none⟩) n cap:=by
 cases h with
 | bS _ _ _ g cap av ah=>exact⟨g,cap,av,ah,rfl⟩
theorem aH.FP {S β} {lv t n:Nat} {x:Value} (h:aH S β (.ho lv t n) x):∃g cap,β lv t=some g∧n≤cap∧x=.slice (some ⟨g,0,none⟩) n cap:=by
 cases h with
 | ho _ _ _ g cap h ah=>exact⟨g,cap,h,ah,rfl⟩
theorem aH.BN {S β} {lv t n:Nat} {x:Value} (h:aH S β (.hn lv t n) x):∃g,β lv t=some g∧x=.slice (some ⟨g,0,none⟩) n n:=by
 cases h with
 | hn _ _ _ g av=>exact⟨g,av,rfl⟩
theorem aH.BO {S β} {lv t:Nat} {x:Value} (h:aH S β (.mp lv t) x):∃g,β lv t=some g∧x=.map (some g):=by
 cases h with
 | mp _ _ g av=>exact⟨g,av,rfl⟩
theorem nU {cs:Array Value} {j:Nat} (h:j<cs.size):cs.getD j Go.undef=cs[j]:=by simp[Array.getD,h]
theorem FQ {t:TypeId} (aD:az P t≠0) {cs:Array Value} {off:Nat} (ad:off+az P t≤cs.size) (w:World):
 ∃x,(part t cs off).run P w=.ok x w∧x=if isAgg P t=true then .agg (cs.extract off (off+az P t))else cs.getD off Go.undef:=by
 obtain⟨i,d,J,aa,ar,aP⟩:=lS aD
 unfold part
 have aL:off<cs.size:=by omega
 simp only[Sem.run_bind,BJ (P:=P) (t:=t) (by rw[aa];rfl),Result.andThen_ok]
 by_cases aO:isAgg P t=true
 ·simp only[aO,if_true,Sem.run_bind,lT aD,Result.andThen_ok,Sem.run_pure]
  exact⟨_,rfl,rfl⟩
 ·simp only[aO,Bool.false_eq_true,if_false,Array.getElem?_eq_getElem aL,Sem.run_pure]
  exact⟨_,rfl,(nU aL).symm⟩
theorem uh {S β} {l:List V} {c:Nat→Value} {ju:Bool} {x:Value} {n:Nat} (aC:0<n) (ai:l.length=n) (a6:∀j,j<n→aH S β (l.getD j .undef) (c j)) (U:x=if ju=true then .agg ((List.range n).map c).toArray else c 0):aH S β (pack ju l) x:=by
 subst U
 cases ju
 ·have:=a6 0 aC
  simp only[pack,Bool.false_eq_true,if_false]
  cases l with
  | nil=>simp at ai;omega
  | cons v l=>exact this
 ·simp only[pack,if_true]
  refine .agg _ _ (by simp[ai]) fun i hi=>?_
  have dI:i<n:=by omega
  have:((List.range n).map c).toArray.getD i Go.undef=c i:=by
   simp[Array.getD,dI]
  rw[this]
  exact a6 i dI
theorem extract_eq {cs:Array Value} {off n:Nat} (h:off+n≤cs.size):cs.extract off (off+n)=((List.range n).map fun j=>cs.getD (off+j) Go.undef).toArray:=by
 apply Array.ext
 ·simp;omega
 ·intro i J aa
  have ar:i<n:=by simpa using aa
  have aP:off+i<cs.size:=by omega
  simp[Array.getD,aP]
theorem ui (l:List V) (off n j:Nat) (h:j<n):((l.drop off).take n).getD j .undef=l.getD (off+j) .undef:=by
 simp[List.getD_eq_getElem?_getD,List.getElem?_take,h]
theorem MI {x:Operand} {t:TypeId} {f:Nat} {v:V} (h:Rel G s a w) (arL:b2 P s t f (s.aM P t x)=some v):b5 P ⟨d,.field t x f,ty,pos,af,gd⟩ G s a w v s:=by
 have J:=h.aM P t x
 unfold b2 at arL
 split at arL
 ·rename_i bW hu
  generalize s.aM P t x=u at arL J
  split at arL
  ·rename_i fd l aJ
   split at arL
   ·rename_i aD
    obtain rfl:=Option.some.inj arL
    obtain⟨cs,U,ai,a6⟩:=J.jB
    obtain⟨y,aA,e3⟩:=FQ (P:=P) aD.2 (cs:=cs) (off:=fd.offset) (by omega) w
    refine b5.dg h (x:=y) ?_ (uh (c:=fun j=>cs.getD (fd.offset+j) Go.undef) (n:=az P fd.type) (by omega) (by simp;omega) (fun j au=>?_) ?_)
    ·simp only[execOp]
     refine eN ?_
     simp[Instr.field,run_underlying hu,aJ,U,asAgg,aA]
    ·rw[ui _ _ _ _ au]
     exact a6 _ (by omega)
    ·rw[e3,extract_eq (by omega)]
     rfl
   ·cases arL
  ·cases arL
 ·cases arL
theorem o4 {t e:TypeId} (hu:P.underlying t=some (.slice e)):c3 P t=az P e:=by simp[c3,elemOf,hu]
theorem MJ {x i:Operand} {t:TypeId} {v:V} (h:Rel G s a w) (arL:yU P t (s.aM P t x) (s.aM P 0 i)=some v):b5 P ⟨d,.indexAddr t x i,ty,pos,af,gd⟩ G s a w v s:=by
 have J:=h.aM P t x
 have aa:=h.aM P 0 i
 have bn:∀own sz l,s.aM P t x=.slc own sz l→own=false:=fun own sz l e=>uf e
 unfold yU at arL
 generalize s.aM P t x=u at arL J bn
 generalize s.aM P 0 i=m at arL aa
 split at arL
 ·rename_i own sz l k n
  split at arL
  ·rename_i ah
   split at arL
   ·rename_i ad
    obtain rfl:=Option.some.inj arL
    obtain rfl:=bn _ _ _ rfl
    obtain⟨e,hu,he⟩:=jC ah.1
    rcases J.sa with⟨rfl,_⟩ | ⟨b,o,cap,c,U,m7,al,a8,a6⟩
    ·simp at ad;omega
    ·have hi:=aa.fD
     have aC:n.toNat<l.length:=by omega
     have aD:az P e≠0:=by rw[←o4 hu,←ah.2.1];exact ah.2.2
     have ct:sz=az P e:=by rw[ah.2.1,o4 hu]
     have df:(l.getD n.toNat (eB P t)).flat=(l.getD n.toNat .undef).flat:=by
      simp[List.getD_eq_getElem?_getD,List.getElem?_eq_getElem aC]
     have hlen:(l.getD n.toNat .undef).flat.length=sz∧(l.getD n.toNat .undef).flat.all bM=true:=by
      refine al _ ?_
      rw[List.getD_eq_getElem?_getD,List.getElem?_eq_getElem aC]
      exact List.getElem_mem aC
     refine b5.dg h (x:=.pointer (some ⟨b,o+n.toNat*az P e,none⟩)) ?_ ?_
     ·simp only[execOp]
      refine eN ?_
      simp[Instr.indexAt,hi,asIntOf,run_underlying hu,U,ad.1,ad.2,lT aD,add_eq]
     ·rw[df]
      refine aH.imp _ _ _ (c n.toNat) hlen.2 (fun j au=>?_) (fun j au=>?_)
      ·rw[←ct];exact a8 _ _ aC (by omega)
      ·exact a6 _ _ aC (by omega)
   ·cases arL
  ·cases arL
 ·rename_i lv kW m k n
  split at arL
  ·rename_i ah
   split at arL
   ·rename_i ad
    obtain rfl:=Option.some.inj arL
    obtain⟨e,hu,he⟩:=jC ah.1
    obtain⟨g,cap,av,_,U⟩:=J.ug
    have hi:=aa.fD
    have aD:az P e≠0:=by rw[←o4 hu];exact ah.2
    refine b5.dg h (x:=.pointer (some ⟨g,n.toNat*az P e,none⟩)) ?_ ?_
    ·simp only[execOp]
     refine eN ?_
     simp[Instr.indexAt,hi,asIntOf,run_underlying hu,U,ad.1,ad.2,lT aD,add_eq]
    ·rw[o4 hu];exact aH.gA _ _ _ _ _ av
   ·cases arL
  ·cases arL
 ·rename_i lv kW m k n
  split at arL
  ·rename_i ah
   split at arL
   ·rename_i ad
    obtain rfl:=Option.some.inj arL
    obtain⟨e,hu,he⟩:=jC ah.1
    obtain⟨g,av,U⟩:=J.BN
    have hi:=aa.fD
    have aD:az P e≠0:=by rw[←o4 hu];exact ah.2
    refine b5.dg h (x:=.pointer (some ⟨g,n.toNat*az P e,none⟩)) ?_ ?_
    ·simp only[execOp]
     refine eN ?_
     simp[Instr.indexAt,hi,asIntOf,run_underlying hu,U,ad.1,ad.2,lT aD,add_eq]
    ·rw[o4 hu];exact aH.gA _ _ _ _ _ av
   ·cases arL
  ·cases arL
 ·rename_i lv kW m k n
  split at arL
  ·rename_i ah
   split at arL
   ·rename_i ad
    obtain rfl:=Option.some.inj arL
    obtain⟨e,hu,he⟩:=jC ah.1
    obtain⟨g,cap,av,_,U⟩:=J.FP
    have hi:=aa.fD
    have aD:az P e≠0:=by rw[←o4 hu];exact ah.2
    refine b5.dg h (x:=.pointer (some ⟨g,n.toNat*az P e,none⟩)) ?_ ?_
    ·simp only[execOp]
     refine eN ?_
     simp[Instr.indexAt,hi,asIntOf,run_underlying hu,U,ad.1,ad.2,lT aD,add_eq]
    ·rw[o4 hu];exact aH.ptr _ _ _ _ av
   ·cases arL
  ·cases arL
 ·rename_i lv kW off k n
  split at arL
  ·rename_i m e hu
   split at arL
   ·rename_i aD
    split at arL
    ·rename_i ad
     obtain rfl:=Option.some.inj arL
     obtain⟨g,av,U⟩:=J.qT
     have hi:=aa.fD
     refine b5.dg h (x:=.pointer (some ⟨g,off+n.toNat*az P e,none⟩)) ?_ (aH.ptr _ _ _ _ av)
     simp only[execOp]
     refine eN ?_
     simp[Instr.indexAt,hi,asIntOf,run_underlying hu,U,ad.1,ad.2,lT aD,add_eq,Instr.sureAddr]
    ·cases arL
   ·cases arL
  ·cases arL
 ·cases arL
theorem MK {x i:Operand} {t:TypeId} {v:V} (h:Rel G s a w) (arL:yV P t (s.aM P t x) (s.aM P 0 i)=some v):b5 P ⟨d,.index t x i,ty,pos,af,gd⟩ G s a w v s:=by
 have J:=h.aM P t x
 have aa:=h.aM P 0 i
 unfold yV at arL
 generalize s.aM P t x=u at arL J
 generalize s.aM P 0 i=m at arL aa
 split at arL
 ·rename_i b k n
  split at arL
  ·rename_i ah
   split at arL
   ·rename_i ad
    obtain rfl:=Option.some.inj arL
    have hu:=wE ah
    have hi:=aa.fD
    have U:=J.ky
    have aC:n.toNat<b.size:=by omega
    refine b5.dg h (x:=.int .u8 (bC b n)) ?_ (aH.int _ _)
    simp only[execOp]
    refine eN ?_
    simp[Instr.index,hi,asIntOf,run_underlying hu,U,ad.1,aC,bC]
   ·cases arL
  ·cases arL
 ·rename_i l k n
  split at arL
  ·rename_i m e hu
   split at arL
   ·rename_i aD
    split at arL
    ·rename_i ad
     obtain rfl:=Option.some.inj arL
     obtain⟨cs,U,ai,a6⟩:=J.jB
     have hi:=aa.fD
     have hle:n.toNat*az P e+az P e≤cs.size:=by
      rw[←ai,aD.2]
      have:n.toNat+1≤m:=by omega
      calc n.toNat*az P e+az P e=(n.toNat+1)*az P e:=by rw[Nat.succ_mul]
       _≤m*az P e:=Nat.mul_le_mul_right _ this
     obtain⟨y,aA,e3⟩:=FQ (P:=P) aD.1 hle w
     refine b5.dg h (x:=y) ?_ (uh (c:=fun j=>cs.getD (n.toNat*az P e+j) Go.undef) (n:=az P e) (by omega) (by simp;omega) (fun j au=>?_) ?_)
     ·simp only[execOp]
      refine eN ?_
      simp[Instr.index,hi,asIntOf,run_underlying hu,U,ad.1,ad.2,lT aD.1,aA]
     ·rw[ui _ _ _ _ au]
      exact a6 _ (by omega)
     ·rw[e3,extract_eq hle]
      rfl
    ·cases arL
   ·cases arL
  ·cases arL
 ·cases arL
end Go.aB
namespace Go.aB
open Go
variable {P:Program} {G:bh} {s:ab} {a:Act} {w:World} {o:Oper}
variable {d:Option Nat} {ty:TypeId} {pos:String} {af:Array Edge} {gd:Option (Nat×Bool)}
theorem BP (h:Rel G s a w) {lo:Option Operand} {l:Option Int} (ai:oX (lo.map (s.aM P 0))=some l):(l=none∧lo.map a.eval=none)∨∃k n,l=some n∧lo.map a.eval=some (.int k n):=by
 cases lo with
 | none=>simp[oX]at ai;exact .inl ⟨ai.symm,rfl⟩
 | some x=>
   have J:=h.aM P 0 x
   simp only[Option.map_some]at ai
   generalize s.aM P 0 x=u at ai J
   cases u<;>simp only[oX,reduceCtorEq,Option.some.injEq]at ai
   subst ai
   exact .inr ⟨_,_,rfl,by rw[Option.map_some,J.fD]⟩
theorem pV {k:IntKind} {n:Int} {y:Nat} {code:BoundsCode} (bn:0≤n) (J:n≤y) (w:World):(Instr.sliceBound (.int k n) y code).run P w=.ok n.toNat w:=by
 simp[Instr.sliceBound,asIntOf,bn,J]
theorem BQ {lo hi mx:Option Value} {l h m:Option Int} {sl:Bool} {len cap:Nat} (mv:(l=none∧lo=none)∨∃k n,l=some n∧lo=some (.int k n)) (FR:(h=none∧hi=none)∨∃k n,h=some n∧hi=some (.int k n))
 (ML:(m=none∧mx=none)∨∃k n,m=some n∧mx=some (.int k n)) (ah:len≤cap) (bn:0≤l.getD 0) (J:l.getD 0≤h.getD len) (aa:h.getD len≤len) (ar:∀n,m=some n→n=h.getD len∧h.isSome=true) (w:World):
 (Instr.sliceBounds sl len cap lo hi mx).run P w=.ok ((l.getD 0).toNat,(h.getD len).toNat,(m.getD cap).toNat) w:=by
 unfold Instr.sliceBounds
 rcases ML with⟨rfl,rfl⟩ | ⟨km,nV,rfl,rfl⟩
 ·rcases FR with⟨rfl,rfl⟩ | ⟨MM,uj,rfl,rfl⟩<;>rcases mv with⟨rfl,rfl⟩ | ⟨lW,nl,rfl,rfl⟩<;>simp only[Option.getD_some,Option.getD_none]at bn J aa⊢
  ·simp
  ·simp[pV bn J]
  ·simp[pV (show(0:Int)≤uj by omega) (show uj≤(cap:Int) by omega)]
  ·simp[pV (show(0:Int)≤uj by omega) (show uj≤(cap:Int) by omega),pV bn (show nl≤(uj.toNat:Int) by omega)]
 ·obtain⟨aR,a7⟩:=ar _ rfl
  rcases FR with⟨rfl,rfl⟩ | ⟨MM,uj,rfl,rfl⟩
  ·cases a7
  ·simp only[Option.getD_some]at aR J aa
   subst aR
   rcases mv with⟨rfl,rfl⟩ | ⟨lW,nl,rfl,rfl⟩<;>simp only[Option.getD_some,Option.getD_none]at bn J⊢
   ·simp[pV (show(0:Int)≤nV by omega) (show nV≤(cap:Int) by omega),pV (show(0:Int)≤nV by omega) (show nV≤(nV.toNat:Int) by omega)]
   ·simp[pV (show(0:Int)≤nV by omega) (show nV≤(cap:Int) by omega),pV (show(0:Int)≤nV by omega) (show nV≤(nV.toNat:Int) by omega),pV bn (show nl≤(nV.toNat:Int) by omega)]
theorem MN {α:Type} {l:List α} {i j:Nat} {x:α} (h:x∈(l.take i).drop j):x∈l:=List.mem_of_mem_take (List.mem_of_mem_drop h)
theorem MO {x:Operand} {lo hi mx:Option Operand} {t:TypeId} {l r m:Option Int} {v:V} (h:Rel G s a w) (ai:oX (lo.map (s.aM P 0))=some l) (aI:oX (hi.map (s.aM P 0))=some r) (hm:oX (mx.map (s.aM P 0))=some m)
 (arL:yO P t (s.aM P t x) l r m=some v):b5 P ⟨d,.slice t x lo hi mx,ty,pos,af,gd⟩ G s a w v s:=by
 have J:=h.aM P t x
 have bn:∀own sz l,s.aM P t x=.slc own sz l→own=false:=fun own sz l e=>uf e
 have g1:=BP h ai
 have g2:=BP h aI
 have g3:=BP h hm
 unfold yO at arL
 generalize s.aM P t x=u at arL J bn
 split at arL
 ·rename_i b
  split at arL
  ·cases arL
  ·split at arL
   ·rename_i ah
    obtain rfl:=Option.some.inj arL
    have hu:=wE ah.1
    refine b5.dg h (x:=.string (b.extract (l.getD 0).toNat (r.getD b.size).toNat)) ?_ (aH.str _)
    simp only[execOp]
    refine eN ?_
    rcases g3 with⟨_,cj⟩ | ⟨_,_,cj,_⟩
    ·have:=BQ (P:=P) (sl:=false) (len:=b.size) (cap:=b.size) (m:=none) g1 g2 (.inl ⟨rfl,rfl⟩) (Nat.le_refl _) ah.2.1 ah.2.2.1 ah.2.2.2 (fun n e=>by cases e) w
     simp only[Instr.sliceAt,Sem.run_bind,run_underlying hu,Result.andThen_ok,Instr.slice,J.ky,cj]
     simp only[Option.isSome_none,Bool.false_eq_true,if_false,Sem.run_bind,Sem.run_pure,Result.andThen_ok]
     rw[this]
     rfl
    ·cases cj
   ·cases arL
 ·rename_i own sz xs
  obtain rfl:=bn _ _ _ rfl
  split at arL
  ·rename_i ah
   obtain⟨j7,ct,wF,eO,iO,wG⟩:=ah
   obtain⟨e,hu,he⟩:=jC j7
   have aD:az P e≠0:=by rw[←o4 hu,←ct];exact wF
   have jD:sz=az P e:=by rw[ct,o4 hu]
   have wH:∀n,m=some n→n=r.getD xs.length∧r.isSome=true:=by
    rintro n rfl
    simp only at arL
    split at arL
    ·assumption
    ·cases arL
   have key:∃y uk,(Instr.sliceAt t (a.eval x) (lo.map a.eval) (hi.map a.eval) (mx.map a.eval)).run P w=.ok y w∧aH G.S G.β (.slc false sz ((xs.take (r.getD xs.length).toNat).drop (l.getD 0).toNat)) y∧(∃A,y=.slice A ((xs.take (r.getD xs.length).toNat).drop (l.getD 0).toNat).length uk)∧(m.isSome=true→uk=((xs.take (r.getD xs.length).toNat).drop (l.getD 0).toNat).length):=by
    have hlen:((xs.take (r.getD xs.length).toNat).drop (l.getD 0).toNat).length=(r.getD xs.length).toNat-(l.getD 0).toNat:=by simp;omega
    rcases J.sa with⟨rfl,sb,wI,U⟩ | ⟨b,o,cap,c,U,m7,al,a8,a6⟩
    ·have ad:=BQ (P:=P) (sl:=true) (len:=0) (cap:=wI) (m:=m) g1 g2 g3 (Nat.zero_le _) eO iO wG wH w
     have aC:([]:List V).length=0:=rfl
     have aR:(l.getD 0).toNat=0:=by omega
     have a7:(r.getD (([]:List V).length:Int)).toNat=0:=by omega
     generalize m8:(m.getD ((wI:Nat):Int)).toNat=M at ad
     have MP:(r.getD ((0:Nat):Int)).toNat=0:=a7
     rw[aR,MP]at ad
     have MQ:m.isSome=true→M=0:=by
      intro BR
      cases m with
      | none=>cases BR
      | some n=>
        have dh:=(wH n rfl).1
        simp only[Option.getD_some]at m8
        have cH:(r.getD (([]:List V).length:Int))=r.getD ((0:Nat):Int):=rfl
        rw[cH]at dh
        omega
     refine⟨.slice (sb.map fun a=>if M=0 then a else a.add (0*az P e)) 0 M,M,?_,?_,⟨_,by simp;rfl⟩,fun h=>by simp[MQ h]⟩
     ·simp only[Instr.sliceAt,Sem.run_bind,run_underlying hu,Result.andThen_ok,Instr.slice,U,ad,lT aD,Sem.run_pure]
      simp
      cases sb<;>simp
      split<;>rfl
     ·simp only[List.take_nil,List.drop_nil];exact aH.h5 _ _ _
    ·have ad:=BQ (P:=P) (sl:=true) (len:=xs.length) (cap:=cap) (m:=m) g1 g2 g3 m7 eO iO wG wH w
     have aqN:(r.getD xs.length).toNat≤(m.getD cap).toNat:=by
      cases m with
      | none=>simp only[Option.getD_none];omega
      | some n=>have:=(wH n rfl).1;simp only[Option.getD_some];omega
     generalize cK:(l.getD 0).toNat=L at*
     generalize BS:(r.getD xs.length).toNat=R at*
     generalize m8:(m.getD cap).toNat=M at*
     have aqO:L≤R:=by omega
     have aqP:R≤xs.length:=by omega
     refine⟨.slice (if M=L then some ⟨b,o,none⟩else some ⟨b,o+L*az P e,none⟩) (R-L) (M-L),M-L,?_,?_,⟨_,by rw[hlen]⟩,fun BR=>?_⟩
     ·simp only[Instr.sliceAt,Sem.run_bind,run_underlying hu,Result.andThen_ok,Instr.slice,U,ad,lT aD,Sem.run_pure,Option.map_some,add_eq]
     ·have bf:((xs.take R).drop L).length≤M-L:=by omega
      rw[←hlen]
      by_cases FT:M=L
      ·have MR:(xs.take R).drop L=[]:=by
        apply List.eq_nil_of_length_eq_zero
        omega
       rw[if_pos FT,MR]
       exact aH.slc _ _ b o _ (fun _ _=>Go.undef) (Nat.zero_le _) (fun x U=>by cases U) (fun i j hi=>absurd hi (Nat.not_lt_zero _)) (fun i j hi=>absurd hi (Nat.not_lt_zero _))
      ·rw[if_neg FT]
       refine aH.slc _ _ b _ _ (fun i j=>c (L+i) j) bf (fun x U=>al x (MN U)) (fun i j hi au=>?_) (fun i j hi au=>?_)
       ·have:=a8 (L+i) j (by omega) au
        rw[Nat.add_mul,jD]at this
        rw[jD,show o+L*az P e+i*az P e+j=o+(L*az P e+i*az P e)+j by omega]
        exact this
       ·have b4:((xs.take R).drop L).getD i .undef=xs.getD (L+i) .undef:=by
         simp only[List.getD_eq_getElem?_getD,List.getElem?_drop,List.getElem?_take]
         rw[if_pos (by omega)]
        rw[b4]
        exact a6 _ _ (by omega) au
     ·rw[hlen]
      cases m with
      | none=>cases BR
      | some n=>
        have:=(wH n rfl).1
        simp only[Option.getD_some]at m8
        omega
   obtain⟨y,uk,aq,aF,⟨A,aW⟩,ck⟩:=key
   split at arL
   ·split at arL
    ·obtain rfl:=Option.some.inj arL
     exact⟨y,w,G,by simp only[execOp];exact eN aq,h,⟨aF,A,uk,aW,.inl (ck rfl)⟩,Fr.refl _ _ _⟩
    ·cases arL
   ·obtain rfl:=Option.some.inj arL
    exact b5.dg h (by simp only[execOp];exact eN aq) aF
  ·cases arL
 ·cases arL
theorem BT {α β:Type} {f:α→Option β}:∀{l:List α} {m:List β},e0 f l=some m→l.length=m.length∧∀(i:Nat) (x:α),l[i]?=some x→∃y,m[i]?=some y∧f x=some y:=by
 intro l
 induction l with
 | nil=>intro m h;simp only[e0,Option.some.injEq]at h;subst h;exact⟨rfl,fun i x U=>by simp at U⟩
 | cons a l ag=>
   intro m h
   simp only[e0]at h
   split at h
   ·rename_i b nR ad hm
    obtain rfl:=Option.some.inj h
    obtain⟨J,aa⟩:=ag hm
    refine⟨by simp[J],fun i x U=>?_⟩
    cases i with
    | zero=>simp only[List.getElem?_cons_zero,Option.some.injEq]at U;subst U;exact⟨b,rfl,ad⟩
    | succ i=>exact aa i x (by simpa using U)
   ·cases h
theorem zb (h:Rel G s a w) {sz:Nat} {l:List V} {b o:Nat} {c:Nat→Nat→Value} (a8:∀i j,i<l.length→j<sz→G.S b (o+i*sz+j)=some (c i j)) (P:Program):
 (loadCells ⟨b,o,none⟩ (l.length*sz)).run P w=.ok (((List.range (l.length*sz)).map fun k=>c (k / sz) (k%sz)).toArray) w:=by
 have:=run_loadCells_list (P:=P) (w:=w) ⟨b,o,none⟩ ((List.range (l.length*sz)).map fun k=>c (k / sz) (k%sz)) ?_
 ·simpa using this
 ·intro j v au
  rw[List.getElem?_map]at au
  cases aI:(List.range (l.length*sz))[j]? with
  | none=>simp[aI]at au
  | some k=>
    simp only[aI,Option.map_some,Option.some.injEq]at au
    subst au
    have ay:k=j∧j<l.length*sz:=by
     rcases Nat.lt_or_ge j (l.length*sz)with aZ | aZ
     ·rw[List.getElem?_range aZ]at aI
      exact⟨(Option.some.inj aI).symm,aZ⟩
     ·rw[List.getElem?_eq_none (by simpa using aZ)]at aI;cases aI
    obtain⟨rfl,aL⟩:=ay
    have aD:0<sz:=by
     rcases Nat.eq_zero_or_pos sz with bn | bn
     ·subst bn;simp at aL
     ·exact bn
    have J:k / sz<l.length:=Nat.div_lt_of_lt_mul (by rw[Nat.mul_comm];exact aL)
    have aa:k%sz<sz:=Nat.mod_lt _ aD
    have ar:=h.cZ _ _ _ (a8 _ _ J aa)
    rw[add_eq]
    rw[show o+k=o+k / sz*sz+k%sz by have:=Nat.div_add_mod k sz;rw[Nat.mul_comm]at this;omega]
    exact ar
theorem MS {x:Operand} {src dst:TypeId} {v:V} (h:Rel G s a w) (arL:yR P src dst (s.aM P src x)=some v):b5 P ⟨d,.convert src dst x,ty,pos,af,gd⟩ G s a w v s:=by
 have J:=h.aM P src x
 have bn:∀own sz l,s.aM P src x=.slc own sz l→own=false:=fun own sz l e=>uf e
 unfold yR at arL
 generalize s.aM P src x=u at arL J bn
 split at arL
 ·rename_i k n bI j6 al aw
  obtain rfl:=Option.some.inj arL
  refine b5.dg h (x:=.int _ _) ?_ (aH.int _ _)
  simp only[execOp]
  refine eN ?_
  simp[convert,run_underlying al,run_underlying aw,J.fD,Conv.intToInt]
 ·rename_i b al aw
  obtain rfl:=Option.some.inj arL
  refine b5.dg h (x:=.string b) ?_ (aH.str _)
  simp only[execOp]
  refine eN ?_
  simp[convert,run_underlying al,run_underlying aw,J.ky]
 ·rename_i e own sz l al aw
  split at arL
  ·rename_i c9 he hm
   split at arL
   ·rename_i aD
    subst aD
    obtain rfl:=Option.some.inj arL
    obtain rfl:=bn _ _ _ rfl
    obtain⟨ai,aC⟩:=BT hm
    rcases J.sa with⟨rfl,sb,wI,U⟩ | ⟨b,o,cap,c,U,m7,ct,a8,a6⟩
    ·obtain rfl:c9=[]:=List.eq_nil_of_length_eq_zero (by simpa using ai.symm)
     refine b5.dg h (x:=.string (tR [])) ?_ (aH.str _)
     simp only[execOp]
     refine eN ?_
     rw[U,run_convert_bytes_string w src dst e _ _ _ al he aw]
     cases sb<;>rfl
    ·refine b5.dg h (x:=.string (tR c9)) ?_ (aH.str _)
     simp only[execOp]
     refine eN ?_
     rw[U,run_convert_bytes_string w src dst e _ _ _ al he aw]
     refine run_bytesToString w _ _ _ c9 ?_
     have:=zb h a8 P
     rw[Nat.mul_one]at this
     rw[this]
     congr 2
     apply List.ext_getElem?
     intro i
     by_cases hi:i<l.length
     ·have dI:i<c9.length:=by omega
      obtain⟨y,aA,e3⟩:=aC i _ (List.getElem?_eq_getElem hi)
      have:=a6 i 0 hi (by omega)
      rw[List.getElem?_map,List.getElem?_range (by simpa using hi),List.getElem?_map,aA]
      simp only[Option.map_some,Nat.div_one,Nat.mod_one]
      simp only[List.getD_eq_getElem?_getD,List.getElem?_eq_getElem hi,Option.getD_some]at this
      generalize l[i]=z at e3 this
      cases z<;>simp only[u8,reduceCtorEq]at e3
      rename_i k m
      cases k<;>simp only[u8,reduceCtorEq,Option.some.injEq]at e3
      subst e3
      have:=this.fD
      rw[this]
     ·simp[List.getElem?_eq_none (show c9.length≤i by omega),hi]
   ·cases arL
  ·cases arL
 ·cases arL
theorem MT {f:Nat} {bg:Array Operand} {cs:List V} (h:Rel G s a w) (ah:e0 (fun x=>match s.aM P 0 x with | .ptr lv t off=>some (V.ptr lv t off) | _=>none) bg.toList=some cs):
 b5 P ⟨d,.makeFunc (.func f) #[] bg,ty,pos,af,gd⟩ G s a w (.fn f cs) s:=by
 obtain⟨ai,aC⟩:=BT ah
 refine b5.dg h (x:=.func (.func f) #[] (bg.map a.eval)) (by simp[execOp,Instr.makeFunc]) (aH.fn _ _ _ (by simpa using ai.symm) fun i hi=>?_)
 have dI:i<bg.size:=by have:=ai;simp at this;omega
 obtain⟨y,aA,e3⟩:=aC i bg[i] (by simp[dI])
 have J:=h.aM P 0 bg[i]
 have aR:cs.getD i .undef=y:=by simp[List.getD_eq_getElem?_getD,aA]
 have a7:(bg.map a.eval).getD i Go.undef=a.eval bg[i]:=by simp[Array.getD,dI]
 rw[aR,a7]
 split at e3
 ·rename_i lv t off al
  obtain rfl:=Option.some.inj e3
  rw[al]at J
  exact J
 ·cases e3
end Go.aB
namespace Go.aB
open Go
variable {P:Program} {G:bh} {s:ab} {a:Act} {w:World} {o:Oper}
variable {d:Option Nat} {ty:TypeId} {pos:String} {af:Array Edge} {gd:Option (Nat×Bool)}
theorem BU (t:Nat) (ob:ax) (lv:Nat):∀o:List (Nat→Option ax),(cP t ob lv o).length=o.length:=by
 intro o
 induction o with
 | nil=>rfl
 | cons f o ag=>simp only[cP];split<;>simp[ag]
theorem MU (t:Nat) (ob:ax) (lv:Nat):∀(o:List (Nat→Option ax)) (bY gF:Nat),(∃x,bV t lv o=some x)→bV bY gF (cP t ob lv o)=if gF=lv∧bY=t then some ob else bV bY gF o:=by
 intro o
 induction o with
 | nil=>intro bY gF h;obtain⟨x,U⟩:=h;cases U
 | cons f o ag=>
   intro bY gF h
   simp only[cP]
   by_cases J:lv=o.length
   ·rw[if_pos J]
    simp only[bV]
    by_cases aa:gF=o.length
    ·rw[if_pos aa,if_pos aa]
     by_cases ar:bY=t
     ·simp[ae,ar,J,aa]
     ·simp[ae,ar]
    ·rw[if_neg aa,if_neg aa]
     rw[if_neg (fun e=>aa (e.1.trans J))]
   ·rw[if_neg J]
    simp only[bV,BU]
    by_cases aa:gF=o.length
    ·rw[if_pos aa,if_pos aa,if_neg (fun e=>J (e.1.symm.trans aa))]
    ·rw[if_neg aa,if_neg aa]
     refine ag bY gF ?_
     obtain⟨x,U⟩:=h
     simp only[bV,if_neg J]at U
     exact⟨x,U⟩
theorem zc (lv u:Nat) (ob:ax):(s.c6 lv u ob).lv=s.lv:=by
 unfold ab.c6 ab.lv
 split
 ·rfl
 ·exact BU _ _ _ _
theorem lX (lv u:Nat) (ob:ax):(s.c6 lv u ob).t=s.t:=by unfold ab.c6;split<;>rfl
theorem BV (lv u:Nat) (ob:ax):(s.c6 lv u ob).n=s.n:=by unfold ab.c6;split<;>rfl
theorem wJ {lv u:Nat} {o5:ax} (h:s.ob lv u=some o5) (ob:ax) (gF bY:Nat):(s.c6 lv u ob).ob gF bY=if gF=lv∧bY=u then some ob else s.ob gF bY:=by
 unfold ab.c6
 unfold ab.ob at h⊢
 by_cases J:lv=s.o.length
 ·rw[if_pos J]
  simp only[bV]
  by_cases aa:gF=s.o.length
  ·rw[if_pos aa,if_pos aa]
   by_cases ar:bY=u
   ·simp[ae,ar,J,aa]
   ·simp[ae,ar]
  ·rw[if_neg aa,if_neg aa,if_neg (fun e=>aa (e.1.trans J))]
 ·rw[if_neg J]
  simp only[bV,BU]
  by_cases aa:gF=s.o.length
  ·rw[if_pos aa,if_pos aa,if_neg (fun e=>J (e.1.symm.trans aa))]
  ·rw[if_neg aa,if_neg aa]
   refine MU u ob lv s.o bY gF ⟨o5,?_⟩
   simpa only[bV,if_neg J]using h
theorem Rel.c6 {G G':bh} {w w':World} (h:Rel G s a w) {lv u g:Nat} {o5 ob:ax} (aj:s.ob lv u=some o5) (av:G.β lv u=some g) (m9:G.aV g=some (.ob lv u)) (hle:ch G G') (dk:G'.β=G.β)
 (al:∀k p,k≠g→(∀j,p≠.ba lv u j)→(∀c j,p≠.rs c j)→G.aV k=some p→w'.heap[k]?=w.heap[k]?∧(∀j,G'.S k j=G.S k j)∧G'.aV k=some p)
 (j4:∀g j c,G'.S g j=some c→w'.cell? ⟨g,j,none⟩=some c) (asa:∀g p,G'.aV g=some p→g<w'.heap.size) (MV:G'.aV g=some (.ob lv u)) (eU:jA G' w' lv u g ob):Rel G' (s.c6 lv u ob) a w':=by
 refine⟨by rw[BV];exact h.size,h.defers,fun t=>?_,fun gF bY eV cq=>?_,fun gF bY g' bT=>?_,j4,asa⟩
 ·rw[lX,zc]
  refine(h.slot t).mono hle fun c j k ay=>?_
  exact al k _ (by rintro rfl;rw[m9]at ay;cases ay) (fun j e=>by cases e) (fun _ _ e=>by cases e) ay
 ·rw[wJ aj]at cq
  split at cq
  ·rename_i he
   obtain⟨rfl,rfl⟩:=he
   obtain rfl:=Option.some.inj cq
   exact⟨g,by rw[dk];exact av,MV,eU⟩
  ·rename_i aY
   obtain⟨g',J,aa,ar⟩:=h.obj gF bY eV cq
   have MW:g'≠g:=by
    rintro rfl
    rw[m9]at aa
    cases aa
    exact aY ⟨rfl,rfl⟩
   obtain⟨aq,aF,aW⟩:=al g' _ MW (fun j e=>by cases e) (fun _ _ e=>by cases e) aa
   refine⟨g',by rw[dk];exact J,aW,ar.mono hle ⟨aq,aF⟩ fun j k ay=>?_⟩
   refine al k _ (by rintro rfl;rw[m9]at ay;cases ay) (fun zd e=>?_) (fun _ _ e=>by cases e) ay
   cases e
   exact aY ⟨rfl,rfl⟩
 ·rw[wJ aj]
  split
  ·exact⟨_,rfl⟩
  ·exact h.fC gF bY g' (by rw[←dk];exact bT)
theorem ze {t:TypeId} (aD:az P t≠0) {b o:Nat} {c:Nat→Value} (ah:∀j,j<az P t→w.cell? ⟨b,o+j,none⟩=some (c j)):
 ∃x,(loadVar t ⟨b,o,none⟩).run P w=.ok x w∧x=if isAgg P t=true then .agg ((List.range (az P t)).map c).toArray else c 0:=by
 obtain⟨i,d,J,aa,ar,aP⟩:=lS aD
 unfold loadVar
 simp only[Sem.run_bind,BJ (P:=P) (t:=t) (by rw[aa];rfl),Result.andThen_ok]
 by_cases aO:isAgg P t=true
 ·have ai:=run_loadCells_list (P:=P) (w:=w) ⟨b,o,none⟩ ((List.range (az P t)).map c) (fun j v au=>by
   rw[List.getElem?_map]at au
   rcases Nat.lt_or_ge j (az P t)with aZ | aZ
   ·rw[List.getElem?_range aZ,Option.map_some,Option.some.injEq]at au
    subst au
    rw[add_eq]
    exact ah j aZ
   ·rw[List.getElem?_eq_none (by simpa using aZ)]at au;cases au)
  rw[List.length_map,List.length_range]at ai
  simp only[aO,if_true,Sem.run_bind,lT aD,Result.andThen_ok,ai,Sem.run_pure]
  exact⟨_,rfl,rfl⟩
 ·have bn:w.cell? ⟨b,o,none⟩=some (c 0):=ah 0 (by omega)
  simp only[aO,Bool.false_eq_true,if_false,run_load,bn]
  exact⟨_,rfl,rfl⟩
theorem MX {p:Nat→bd} {l:List V} {c:Nat→Value} {ju:Bool} {x:Value} {n:Nat} (aC:0<n) (ai:l.length=n) (a6:∀j,j<n→br G w (p j) (l.getD j .undef) (c j)) (U:x=if ju=true then .agg ((List.range n).map c).toArray else c 0):c7 G w p (pack ju l) x:=by
 subst U
 cases ju
 ·have:=a6 0 aC
  simp only[pack,Bool.false_eq_true,if_false]
  cases l with
  | nil=>simp at ai;omega
  | cons v l=>
    show c7 G w p v (c 0)
    simp only[List.getD_cons_zero]at this
    cases v
    case agg m=>
     have J:aH G.S G.β (.agg m) (c 0):=this
     exact c7.fT J
    all_goals exact this
 ·simp only[pack,if_true]
  refine⟨_,rfl,by simp[ai],fun i hi=>?_⟩
  have dI:i<n:=by omega
  have:((List.range n).map c).toArray.getD i Go.undef=c i:=by simp[Array.getD,dI]
  rw[this]
  exact a6 i dI
theorem c7.zf {p:Nat→Nat→bd} {v:V} {x:Value} (h:c7 G w (p 0) v x) (aK:∀l,v≠.tup l):bZ G w p v x:=by
 cases v
 case tup l=>exact absurd rfl (aK l)
 all_goals exact h
theorem asb (l c:List V) (off j:Nat) (h:off+c.length≤l.length):(eg l off c).getD j .undef=if off≤j∧j<off+c.length then c.getD (j-off) .undef else l.getD j .undef:=by
 simp only[eg,List.getD_eq_getElem?_getD,List.append_assoc]
 by_cases J:j<off
 ·rw[List.getElem?_append_left (by simp;omega),List.getElem?_take,if_pos J,if_neg (by omega)]
 ·rw[List.getElem?_append_right (by simp;omega)]
  simp only[List.length_take,Nat.min_eq_left (show off≤l.length by omega)]
  by_cases aa:j-off<c.length
  ·rw[List.getElem?_append_left aa,if_pos (by omega)]
  ·rw[List.getElem?_append_right (by omega),if_neg (by omega),List.getElem?_drop]
   congr 2
   omega
theorem nW (l c:List V) (off:Nat) (h:off+c.length≤l.length):(eg l off c).length=l.length:=by
 simp[eg];omega
def lY (lv u off n:Nat):bd→bd
 | .ba l t j=>if l=lv∧t=u∧off≤j∧j<off+n then .rs 0 (j-off)else .ba l t j
 | p=>p
theorem MY {ju:Bool} {l:List V} {n:Nat} (ai:l.length=n) (aC:0<n) (h:∀j m,j<n→l.getD j .undef≠.tup m):∀m,pack ju l≠.tup m:=by
 intro m
 cases ju
 ·cases l with
  | nil=>simp at ai;omega
  | cons v l=>exact h 0 m aC
 ·intro e;cases e
theorem br.tup {p:bd} {m:List V} {x:Value} (h:br G w p (.tup m) x):False:=by cases h
theorem FU (v:V):(∃l,v=.agg l)∨((∀l,v≠.agg l)∧v.flat=[v]):=by
 cases v
 case agg l=>exact .inl ⟨l,rfl⟩
 all_goals exact .inr ⟨fun l e=>(by cases e),rfl⟩
def sd (P:Program) (o:Oper) (G:bh) (s:ab) (a:Act) (w:World) (v:V) (s1:ab):Prop:=
 ∃x G',(execOp a.eval o).run P w=.ok (.value x) w∧Rel G' s1 a w∧bZ G' w bd.rs v x∧Fr s.lv G w G' w
theorem sd.dg (h:Rel G s a w) {v:V} {x:Value} (aI:(execOp a.eval o).run P w=.ok (.value x) w) (a6:aH G.S G.β v x):sd P o G s a w v s:=
 ⟨x,G,aI,h,bZ.fT a6,Fr.refl _ _ _⟩
theorem um {x:Operand} {t:TypeId} {jV:Bool} {v:V} {s1:ab} (h:Rel G s a w) (arL:hq P s jV t (s.aM P 0 x)=some (v,s1)):sd P ⟨d,.load t x,ty,pos,af,gd⟩ G s a w v s1:=by
 have J:=h.aM P 0 x
 unfold hq at arL
 generalize s.aM P 0 x=u at arL J
 have gi:∀b o y w',a.eval x=.pointer (some ⟨b,o,none⟩)→(loadVar t ⟨b,o,none⟩).run P w=.ok y w'→(execOp a.eval ⟨d,.load t x,ty,pos,af,gd⟩).run P w=.ok (.value y) w':=by
  intro b o y w' U ai
  simp only[execOp]
  refine eN ?_
  simp only[Instr.loadAt,U,Instr.sureAddr,Sem.run_bind,Sem.run_pure,Result.andThen_ok,ai]
 split at arL
 ·rename_i lv u off
  obtain⟨g,av,U⟩:=J.qT
  split at arL
  ·rename_i cs aj
   split at arL
   ·rename_i ah
    obtain⟨g',bT,bA,bo,hK,ad,ai,a8,a6⟩:=h.obj lv u _ aj
    obtain rfl:g'=g:=by rw[av]at bT;exact(Option.some.inj bT).symm
    obtain⟨y,aA,e3⟩:=ze (P:=P) (w:=w) ah.2 (b:=g') (o:=off) (c:=fun j=>bo.getD (off+j) Go.undef) (fun j au=>by
     have:off+j<bo.size:=by omega
     simp[World.cell?,ad,Array.getD,this])
    split at arL
    ·obtain⟨rfl,rfl⟩:=Prod.mk.inj (Option.some.inj arL)
     have hlen:((cs.drop off).take (az P t)).length=az P t:=by simp;omega
     have hle:ch G (G.bP (lY lv u off (az P t))):=G.m6 _
     have mw:c7 (G.bP (lY lv u off (az P t))) w (bd.rs 0) (pack (isAgg P t) ((cs.drop off).take (az P t))) y:=
      MX (by omega) hlen (fun j au=>by
       rw[ui _ _ _ _ au]
       exact(a6 (off+j) (by omega)).bP _ (by simp only[lY];rw[if_pos ⟨trivial,trivial,by omega,by omega⟩];congr 1;omega)) e3
     refine⟨y,G.bP (lY lv u off (az P t)),gi _ _ _ _ U aA,?_,c7.zf mw (MY hlen (by omega) fun j m au e=>?_),o2 fun p=>?_⟩
     ·refine h.c6 aj av bA hle rfl (fun k p ay arM _ fs=>⟨rfl,fun _=>rfl,?_⟩) h.cZ (lR h.aX) (by rw[dw bA];rfl) ?_
      ·rw[dw fs]
       congr 1
       cases p with
       | ba l bY j=>
         simp only[lY]
         split
         ·rename_i bj
          exact absurd (by rw[bj.1,bj.2.1]) (arM j)
         ·rfl
       | _=>rfl
      ·have arQ:(((cs.drop off).take (az P t)).map V.cM).length=az P t:=by rw[List.length_map,hlen]
       refine⟨bo,hK,ad,by rw[nW _ _ _ (by rw[arQ];omega)];exact ai,a8,fun j au=>?_⟩
       rw[nW _ _ _ (by rw[arQ];omega)]at au
       rw[asb _ _ _ _ (by rw[arQ];omega),arQ]
       split
       ·rename_i bj
        rw[ar9,ui _ _ _ _ (by omega),show off+(j-off)=j by omega]
        exact br.j3 (hle.dg (a6 j au).view)
       ·rename_i bj
        exact(a6 j au).bP _ (by simp only[lY];rw[if_neg (fun e=>bj ⟨e.2.2.1,e.2.2.2⟩)])
     ·rw[ui _ _ _ _ au]at e
      have:=a6 (off+j) (by omega)
      rw[e]at this
      exact this.tup
     ·cases p with
      | ba l bY j=>exact .inr trivial
      | _=>exact .inl rfl
    ·obtain⟨rfl,rfl⟩:=Prod.mk.inj (Option.some.inj arL)
     refine sd.dg h (gi _ _ _ _ U aA) (uh (n:=az P t) (by omega) (by simp;omega) (fun j au=>?_) e3)
     rw[ar9,ui _ _ _ _ au]
     exact(a6 (off+j) (by omega)).view
   ·cases arL
  ·cases arL
 ·rename_i l
  split at arL
  ·rename_i ah
   obtain⟨rfl,rfl⟩:=Prod.mk.inj (Option.some.inj arL)
   obtain⟨b,o,c,U,_,a8,a6⟩:=J.FO
   obtain⟨y,aA,e3⟩:=ze (P:=P) (w:=w) ah.2 (b:=b) (o:=o) (c:=c) (fun j au=>h.cZ _ _ _ (a8 j (by omega)))
   refine sd.dg h (gi _ _ _ _ U aA) (uh (n:=az P t) (by omega) (by simp;omega) (fun j au=>?_) e3)
   have:=a6 j (by omega)
   simpa[List.getD_eq_getElem?_getD,List.getElem?_take,au]using this
  ·cases arL
 ·rename_i lv u i sz
  obtain⟨g,av,U⟩:=J.za
  split at arL
  ·rename_i iv b8 l aj
   split at arL
   ·rename_i ah
    obtain⟨rfl,rfl,aD,hi⟩:=ah
    obtain⟨rfl,rfl⟩:=Prod.mk.inj (Option.some.inj arL)
    obtain⟨g',bT,bA,bo,hK,ad,ai,al,a6,_⟩:=h.obj lv u _ aj
    obtain rfl:g'=g:=by rw[av]at bT;exact(Option.some.inj bT).symm
    have df:(l.getD i .undef).flat.length=az P t:=by
     refine(al _ ?_).1
     rw[List.getD_eq_getElem?_getD,List.getElem?_eq_getElem hi]
     exact List.getElem_mem hi
    have hle:i*az P t+az P t≤bo.size:=by
     refine Nat.le_trans ?_ ai
     calc i*az P t+az P t=(i+1)*az P t:=by rw[Nat.succ_mul]
      _≤l.length*az P t:=Nat.mul_le_mul_right _ hi
    obtain⟨y,aA,e3⟩:=ze (P:=P) (w:=w) aD (b:=g') (o:=i*az P t) (c:=fun j=>bo.getD (i*az P t+j) Go.undef) (fun j au=>by
     have:i*az P t+j<bo.size:=by omega
     simp[World.cell?,ad,Array.getD,this])
    exact sd.dg h (gi _ _ _ _ U aA) (uh (n:=az P t) (by omega) df (fun j au=>a6 i j hi au) e3)
   ·cases arL
  ·rename_i b8 l aj
   split at arL
   ·rename_i ah
    obtain⟨rfl,rfl,aD,hi⟩:=ah
    obtain⟨rfl,rfl⟩:=Prod.mk.inj (Option.some.inj arL)
    obtain⟨g',bT,bA,bo,hK,ad,ai,al,a6,_⟩:=h.obj lv u _ aj
    obtain rfl:g'=g:=by rw[av]at bT;exact(Option.some.inj bT).symm
    have df:(l.getD i .undef).flat.length=az P t:=by
     refine(al _ ?_).1
     rw[List.getD_eq_getElem?_getD,List.getElem?_eq_getElem hi]
     exact List.getElem_mem hi
    have hle:i*az P t+az P t≤bo.size:=by
     refine Nat.le_trans ?_ ai
     calc i*az P t+az P t=(i+1)*az P t:=by rw[Nat.succ_mul]
      _≤l.length*az P t:=Nat.mul_le_mul_right _ hi
    obtain⟨y,aA,e3⟩:=ze (P:=P) (w:=w) aD (b:=g') (o:=i*az P t) (c:=fun j=>bo.getD (i*az P t+j) Go.undef) (fun j au=>by
     have:i*az P t+j<bo.size:=by omega
     simp[World.cell?,ad,Array.getD,this])
    exact sd.dg h (gi _ _ _ _ U aA) (uh (n:=az P t) (by omega) df (fun j au=>a6 i j hi au) e3)
   ·cases arL
  ·cases arL
 ·cases arL
theorem MZ {x:Operand} {t:TypeId} {jV:Bool} {v:V} {s1:ab} (h:Rel G s a w) (arL:hq P s jV t (s.aM P 0 x)=some (v,s1)):b5 P ⟨d,.load t x,ty,pos,af,gd⟩ G s a w v s1:=
 let⟨x,G',J,aa⟩:=um h arL
 ⟨x,w,G',J,aa⟩
end Go.aB
