/- Draws: an expression. Draws: a program. The words of a length, and up to one. Words run through an automaton, automata compared. -/
import Derived.Test.YtlecddobnippmaaGreatEvZA
import Derived.Test.YtlecddobnippmaaGreatEvY
import Derived.Test.YtlecddobnippmaaGreatEvV
import Derived.Test.YtlecddobnippmaaGreatEvS
import Derived.Test.YtlecddobnippmaaGreatEvZ
set_option linter.unusedVariables false
set_option linter.unusedSimpArgs false
namespace Go.aB
open Go Go.Proofs
set_option maxRecDepth 10000
set_option maxHeartbeats 4000000
theorem fz {f:Nat} {args:List V} {l:List Int} {i hl:Nat} {h aZ:Int} {v:V} (R:∀(t lv:Nat) (o:List (Nat→Option ax)),bV t lv o=some (cur l i h)→run ak f (.ptr lv t 0::args) o=some (v,cP t (cur l hl aZ) lv o)) {t lv:Nat} {o:List (Nat→Option ax)} (aj:bV t lv o=some (cur l i h)) (b:Nat→Option ax):run ak f (.ptr lv t 0::args) (b::o)=some (v,b::cP t (cur l hl aZ) lv o):=by
 rw[R t lv _ (Bq aj b),vM _ _ _ _ (eG aj)]
theorem go2 {f:Nat} {args:List V} {l:List Int} {i hl:Nat} {h aZ:Int} {v:V} (R:∀(t lv:Nat) (o:List (Nat→Option ax)),bV t lv o=some (cur l i h)→run ak f (.ptr lv t 0::args) o=some (v,cP t (cur l hl aZ) lv o)) {t lv:Nat} {o:List (Nat→Option ax)} (ai:lv<o.length) (b:Nat→Option ax):run ak f (.ptr lv t 0::args) (b::cP t (cur l i h) lv o)=some (v,b::cP t (cur l hl aZ) lv o):=by
 rw[fz R (by rw[DH _ _ _ _ _ _ ai,if_pos ⟨rfl,rfl⟩]) b,ri]
def aU.dC (r:aU):V:=.agg [.int .i64 r.kind,.str r.dV,.slc true 3 (r.args.map aU.enc)]
theorem mn (k:Int) (s:ByteArray):ee (aU.enc ⟨k,s,[]⟩)=s.size:=by
 rw[aU.dv];simp[ee,kE]
theorem Bu (k:Int) (x:aU):ee (aU.enc ⟨k,⟨#[]⟩,[x]⟩)=1+ee x.enc:=by
 rw[aU.dv];simp[ee,kE];rfl
theorem Bv (k:Int) (x y:aU):ee (aU.enc ⟨k,⟨#[]⟩,[x,y]⟩)=2+(ee x.enc+ee y.enc):=by
 rw[aU.dv];simp[ee,kE];rfl
theorem aqh (l:List Int) (ai:l.length≤1048576):∀n:Nat,n≤10→hk ak 78 [.int .i64 (n:Int)] l fun v=>∃r:aU,ee r.enc≤10*3^n∧v=r.dC:=by
 intro n
 induction n with
 | zero=>
   intro aC i h hi
   have eY:((0:Nat):Int)<2:=by decide
   have mZ:1≤10*3^0:=by decide
   obtain⟨_,i1,J,⟨x,fW,dK,rfl⟩,ew,dL⟩:=oU 8 (by decide) (by decide) l ai i h hi
   by_cases g0:x=0
   ·subst g0
    refine⟨_,i1,J,⟨⟨2,⟨#[]⟩,[]⟩,by rw[mn];exact Nat.le_trans (by decide) mZ,rfl⟩,ew,fun t lv o aj=>?_⟩
    have aL:=eG aj
    have aY:¬lv=o.length:=by omega
    have bt:=fz dL aj
    rw[run_eq ak 78 _ _ Tryz.func78 (by decide+kernel) rfl (show 2≤_ by decide)]
    dsimp only[Tryz.f78]
    simp only[go_sem,bt,eY,aY,db,aU.dC,List.map_nil,Int.reduceBEq]
   by_cases g1:x=1
   ·subst g1
    refine⟨_,i1,J,⟨⟨4,⟨#[]⟩,[]⟩,by rw[mn];exact Nat.le_trans (by decide) mZ,rfl⟩,ew,fun t lv o aj=>?_⟩
    have aL:=eG aj
    have aY:¬lv=o.length:=by omega
    have bt:=fz dL aj
    rw[run_eq ak 78 _ _ Tryz.func78 (by decide+kernel) rfl (show 2≤_ by decide)]
    dsimp only[Tryz.f78]
    simp only[go_sem,bt,eY,aY,db,aU.dC,List.map_nil,Int.reduceBEq]
   by_cases g2:x=2
   ·subst g2
    refine⟨_,i1,J,⟨⟨1,⟨#[]⟩,[]⟩,by rw[mn];exact Nat.le_trans (by decide) mZ,rfl⟩,ew,fun t lv o aj=>?_⟩
    have aL:=eG aj
    have aY:¬lv=o.length:=by omega
    have bt:=fz dL aj
    rw[run_eq ak 78 _ _ Tryz.func78 (by decide+kernel) rfl (show 2≤_ by decide)]
    dsimp only[Tryz.f78]
    simp only[go_sem,bt,eY,aY,db,aU.dC,List.map_nil,Int.reduceBEq]
   have cw:(x==0)=false:=by simpa using g0
   have bU:(x==1)=false:=by simpa using g1
   have cv:(x==2)=false:=by simpa using g2
   obtain⟨_,i2,aa,⟨w,hw,rfl⟩,dE,dP⟩:=qJ [⟨#[97]⟩,⟨#[97]⟩,⟨#[98]⟩,⟨#[98]⟩,⟨#[99]⟩] (by decide) (by decide) l ai i1 J ew
   have aD:w.size=1:=by
    simp only[List.mem_cons,List.not_mem_nil,or_false]at hw
    rcases hw with rfl | rfl | rfl | rfl | rfl<;>rfl
   simp only[List.map_cons,List.map_nil]at dP
   refine⟨_,i2,aa,⟨⟨3,w,[]⟩,by rw[mn,aD];exact mZ,rfl⟩,dE,fun t lv o aj=>?_⟩
   have aL:=eG aj
   have aY:¬lv=o.length:=by omega
   have bt:=fz dL aj
   have bq:=go2 dP (t:=t) aL
   rw[run_eq ak 78 _ _ Tryz.func78 (by decide+kernel) rfl (show 2≤_ by decide)]
   dsimp only[Tryz.f78]
   simp only[go_sem,bt,bq,eY,aY,db,aU.dC,List.map_nil,cw,bU,cv]
 | succ n ag=>
   intro aC i h hi
   have ag:=ag (by omega)
   have mZ:1≤10*3^(n+1):=by have:=Nat.pow_pos (a:=3) (n:=n+1) (by decide);omega
   have cj:3^(n+1)=3^n*3:=Nat.pow_succ ..
   have uO:=Nat.pow_pos (a:=3) (n:=n) (by decide)
   have wn:IntKind.i64.wrap (((n+1:Nat):Int)-1)=(n:Int):=by rw[show((n+1:Nat):Int)-1=(n:Int) by omega];exact hC (by omega) (by omega)
   by_cases eY:((n+1:Nat):Int)<2
   ·obtain⟨_,i1,J,⟨x,fW,dK,rfl⟩,ew,dL⟩:=oU 8 (by decide) (by decide) l ai i h hi
    by_cases g0:x=0
    ·subst g0
     refine⟨_,i1,J,⟨⟨2,⟨#[]⟩,[]⟩,by rw[mn];exact Nat.le_trans (by decide) mZ,rfl⟩,ew,fun t lv o aj=>?_⟩
     have aL:=eG aj
     have aY:¬lv=o.length:=by omega
     have bt:=fz dL aj
     rw[run_eq ak 78 _ _ Tryz.func78 (by decide+kernel) rfl (show 2≤_ by decide)]
     dsimp only[Tryz.f78]
     simp only[go_sem,bt,eY,aY,db,aU.dC,List.map_nil,Int.reduceBEq]
    by_cases g1:x=1
    ·subst g1
     refine⟨_,i1,J,⟨⟨4,⟨#[]⟩,[]⟩,by rw[mn];exact Nat.le_trans (by decide) mZ,rfl⟩,ew,fun t lv o aj=>?_⟩
     have aL:=eG aj
     have aY:¬lv=o.length:=by omega
     have bt:=fz dL aj
     rw[run_eq ak 78 _ _ Tryz.func78 (by decide+kernel) rfl (show 2≤_ by decide)]
     dsimp only[Tryz.f78]
     simp only[go_sem,bt,eY,aY,db,aU.dC,List.map_nil,Int.reduceBEq]
    by_cases g2:x=2
    ·subst g2
     refine⟨_,i1,J,⟨⟨1,⟨#[]⟩,[]⟩,by rw[mn];exact Nat.le_trans (by decide) mZ,rfl⟩,ew,fun t lv o aj=>?_⟩
     have aL:=eG aj
     have aY:¬lv=o.length:=by omega
     have bt:=fz dL aj
     rw[run_eq ak 78 _ _ Tryz.func78 (by decide+kernel) rfl (show 2≤_ by decide)]
     dsimp only[Tryz.f78]
     simp only[go_sem,bt,eY,aY,db,aU.dC,List.map_nil,Int.reduceBEq]
    have cw:(x==0)=false:=by simpa using g0
    have bU:(x==1)=false:=by simpa using g1
    have cv:(x==2)=false:=by simpa using g2
    obtain⟨_,i2,aa,⟨w,hw,rfl⟩,dE,dP⟩:=qJ [⟨#[97]⟩,⟨#[97]⟩,⟨#[98]⟩,⟨#[98]⟩,⟨#[99]⟩] (by decide) (by decide) l ai i1 J ew
    have aD:w.size=1:=by
     simp only[List.mem_cons,List.not_mem_nil,or_false]at hw
     rcases hw with rfl | rfl | rfl | rfl | rfl<;>rfl
    simp only[List.map_cons,List.map_nil]at dP
    refine⟨_,i2,aa,⟨⟨3,w,[]⟩,by rw[mn,aD];exact mZ,rfl⟩,dE,fun t lv o aj=>?_⟩
    have aL:=eG aj
    have aY:¬lv=o.length:=by omega
    have bt:=fz dL aj
    have bq:=go2 dP (t:=t) aL
    rw[run_eq ak 78 _ _ Tryz.func78 (by decide+kernel) rfl (show 2≤_ by decide)]
    dsimp only[Tryz.f78]
    simp only[go_sem,bt,bq,eY,aY,db,aU.dC,List.map_nil,cw,bU,cv]
   obtain⟨_,i0,bn,⟨b,rfl⟩,vV,lI⟩:=aqf 5 (by decide) (by decide) l ai i h hi
   cases b with
   | true=>
     obtain⟨_,i1,J,⟨x,fW,dK,rfl⟩,ew,dL⟩:=oU 8 (by decide) (by decide) l ai i0 bn vV
     by_cases g0:x=0
     ·subst g0
      refine⟨_,i1,J,⟨⟨2,⟨#[]⟩,[]⟩,by rw[mn];exact Nat.le_trans (by decide) mZ,rfl⟩,ew,fun t lv o aj=>?_⟩
      have aL:=eG aj
      have aY:¬lv=o.length:=by omega
      have c5:=fz lI aj
      have bt:=go2 dL (t:=t) aL
      rw[run_eq ak 78 _ _ Tryz.func78 (by decide+kernel) rfl (show 2≤_ by decide)]
      dsimp only[Tryz.f78]
      simp only[go_sem,c5,bt,eY,aY,db,aU.dC,List.map_nil,Int.reduceBEq]
     by_cases g1:x=1
     ·subst g1
      refine⟨_,i1,J,⟨⟨4,⟨#[]⟩,[]⟩,by rw[mn];exact Nat.le_trans (by decide) mZ,rfl⟩,ew,fun t lv o aj=>?_⟩
      have aL:=eG aj
      have aY:¬lv=o.length:=by omega
      have c5:=fz lI aj
      have bt:=go2 dL (t:=t) aL
      rw[run_eq ak 78 _ _ Tryz.func78 (by decide+kernel) rfl (show 2≤_ by decide)]
      dsimp only[Tryz.f78]
      simp only[go_sem,c5,bt,eY,aY,db,aU.dC,List.map_nil,Int.reduceBEq]
     by_cases g2:x=2
     ·subst g2
      refine⟨_,i1,J,⟨⟨1,⟨#[]⟩,[]⟩,by rw[mn];exact Nat.le_trans (by decide) mZ,rfl⟩,ew,fun t lv o aj=>?_⟩
      have aL:=eG aj
      have aY:¬lv=o.length:=by omega
      have c5:=fz lI aj
      have bt:=go2 dL (t:=t) aL
      rw[run_eq ak 78 _ _ Tryz.func78 (by decide+kernel) rfl (show 2≤_ by decide)]
      dsimp only[Tryz.f78]
      simp only[go_sem,c5,bt,eY,aY,db,aU.dC,List.map_nil,Int.reduceBEq]
     have cw:(x==0)=false:=by simpa using g0
     have bU:(x==1)=false:=by simpa using g1
     have cv:(x==2)=false:=by simpa using g2
     obtain⟨_,i2,aa,⟨w,hw,rfl⟩,dE,dP⟩:=qJ [⟨#[97]⟩,⟨#[97]⟩,⟨#[98]⟩,⟨#[98]⟩,⟨#[99]⟩] (by decide) (by decide) l ai i1 J ew
     have aD:w.size=1:=by
      simp only[List.mem_cons,List.not_mem_nil,or_false]at hw
      rcases hw with rfl | rfl | rfl | rfl | rfl<;>rfl
     simp only[List.map_cons,List.map_nil]at dP
     refine⟨_,i2,aa,⟨⟨3,w,[]⟩,by rw[mn,aD];exact mZ,rfl⟩,dE,fun t lv o aj=>?_⟩
     have aL:=eG aj
     have aY:¬lv=o.length:=by omega
     have c5:=fz lI aj
     have bt:=go2 dL (t:=t) aL
     have bq:=go2 dP (t:=t) aL
     rw[run_eq ak 78 _ _ Tryz.func78 (by decide+kernel) rfl (show 2≤_ by decide)]
     dsimp only[Tryz.f78]
     simp only[go_sem,c5,bt,bq,eY,aY,db,aU.dC,List.map_nil,cw,bU,cv]
   | false=>
     obtain⟨_,i1,J,⟨x,fW,dK,rfl⟩,ew,dL⟩:=oU 10 (by decide) (by decide) l ai i0 bn vV
     by_cases g0:x=0
     ·subst g0
      obtain⟨_,i2,aa,⟨r,aI,rfl⟩,dE,dP⟩:=ag i1 J ew
      refine⟨_,i2,aa,⟨⟨8,⟨#[]⟩,[r]⟩,by rw[Bu];omega,rfl⟩,dE,fun t lv o aj=>?_⟩
      have aL:=eG aj
      have aY:¬lv=o.length:=by omega
      have c5:=fz lI aj
      have bt:=go2 dL (t:=t) aL
      have bq:=go2 dP (t:=t) aL
      unfold aU.dC at bq⊢
      simp only[List.map_cons,List.map_nil,aU.dv r]
      rw[run_eq ak 78 _ _ Tryz.func78 (by decide+kernel) rfl (show 2≤_ by decide)]
      dsimp only[Tryz.f78]
      simp only[go_sem,c5,bt,bq,eY,aY,db,wn,Int.reduceBEq]
     by_cases g1:x=1
     ·subst g1
      obtain⟨_,i2,aa,⟨r,aI,rfl⟩,dE,dP⟩:=ag i1 J ew
      refine⟨_,i2,aa,⟨⟨8,⟨#[]⟩,[r]⟩,by rw[Bu];omega,rfl⟩,dE,fun t lv o aj=>?_⟩
      have aL:=eG aj
      have aY:¬lv=o.length:=by omega
      have c5:=fz lI aj
      have bt:=go2 dL (t:=t) aL
      have bq:=go2 dP (t:=t) aL
      unfold aU.dC at bq⊢
      simp only[List.map_cons,List.map_nil,aU.dv r]
      rw[run_eq ak 78 _ _ Tryz.func78 (by decide+kernel) rfl (show 2≤_ by decide)]
      dsimp only[Tryz.f78]
      simp only[go_sem,c5,bt,bq,eY,aY,db,wn,Int.reduceBEq]
     by_cases g2:x=2
     ·subst g2
      obtain⟨_,i2,aa,⟨r,aI,rfl⟩,dE,dP⟩:=ag i1 J ew
      refine⟨_,i2,aa,⟨⟨8,⟨#[]⟩,[r]⟩,by rw[Bu];omega,rfl⟩,dE,fun t lv o aj=>?_⟩
      have aL:=eG aj
      have aY:¬lv=o.length:=by omega
      have c5:=fz lI aj
      have bt:=go2 dL (t:=t) aL
      have bq:=go2 dP (t:=t) aL
      unfold aU.dC at bq⊢
      simp only[List.map_cons,List.map_nil,aU.dv r]
      rw[run_eq ak 78 _ _ Tryz.func78 (by decide+kernel) rfl (show 2≤_ by decide)]
      dsimp only[Tryz.f78]
      simp only[go_sem,c5,bt,bq,eY,aY,db,wn,Int.reduceBEq]
     by_cases g3:x=3
     ·subst g3
      obtain⟨_,i2,aa,⟨r,aI,rfl⟩,dE,dP⟩:=ag i1 J ew
      refine⟨_,i2,aa,⟨⟨9,⟨#[]⟩,[r]⟩,by rw[Bu];omega,rfl⟩,dE,fun t lv o aj=>?_⟩
      have aL:=eG aj
      have aY:¬lv=o.length:=by omega
      have c5:=fz lI aj
      have bt:=go2 dL (t:=t) aL
      have bq:=go2 dP (t:=t) aL
      unfold aU.dC at bq⊢
      simp only[List.map_cons,List.map_nil,aU.dv r]
      rw[run_eq ak 78 _ _ Tryz.func78 (by decide+kernel) rfl (show 2≤_ by decide)]
      dsimp only[Tryz.f78]
      simp only[go_sem,c5,bt,bq,eY,aY,db,wn,Int.reduceBEq]
     by_cases g4:x=4
     ·subst g4
      obtain⟨_,i2,aa,⟨r,aI,rfl⟩,dE,dP⟩:=ag i1 J ew
      obtain⟨_,i3,ar,⟨s,al,rfl⟩,oV,nL⟩:=ag i2 aa dE
      refine⟨_,i3,ar,⟨⟨7,⟨#[]⟩,[r,s]⟩,by rw[Bv];omega,rfl⟩,oV,fun t lv o aj=>?_⟩
      have aL:=eG aj
      have aY:¬lv=o.length:=by omega
      have c5:=fz lI aj
      have bt:=go2 dL (t:=t) aL
      have bq:=go2 dP (t:=t) aL
      have cN:=go2 nL (t:=t) aL
      unfold aU.dC at bq cN⊢
      simp only[List.map_cons,List.map_nil,aU.dv r,aU.dv s]
      rw[run_eq ak 78 _ _ Tryz.func78 (by decide+kernel) rfl (show 2≤_ by decide)]
      dsimp only[Tryz.f78]
      simp only[go_sem,c5,bt,bq,eY,aY,db,wn,Int.reduceBEq]
      rw[arR]
      rotate_left
      ·kernel_rfl
      simp only[go_sem,cN,aY,db,wn,still,eq_self]
     by_cases g5:x=5
     ·subst g5
      obtain⟨_,i2,aa,⟨r,aI,rfl⟩,dE,dP⟩:=ag i1 J ew
      obtain⟨_,i3,ar,⟨s,al,rfl⟩,oV,nL⟩:=ag i2 aa dE
      refine⟨_,i3,ar,⟨⟨6,⟨#[]⟩,[r,s]⟩,by rw[Bv];omega,rfl⟩,oV,fun t lv o aj=>?_⟩
      have aL:=eG aj
      have aY:¬lv=o.length:=by omega
      have c5:=fz lI aj
      have bt:=go2 dL (t:=t) aL
      have bq:=go2 dP (t:=t) aL
      have cN:=go2 nL (t:=t) aL
      unfold aU.dC at bq cN⊢
      simp only[List.map_cons,List.map_nil,aU.dv r,aU.dv s]
      rw[run_eq ak 78 _ _ Tryz.func78 (by decide+kernel) rfl (show 2≤_ by decide)]
      dsimp only[Tryz.f78]
      simp only[go_sem,c5,bt,bq,eY,aY,db,wn,Int.reduceBEq]
      rw[arR]
      rotate_left
      ·kernel_rfl
      simp only[go_sem,cN,aY,db,wn,still,eq_self]
     by_cases g6:x=6
     ·subst g6
      obtain⟨_,i2,aa,⟨r,aI,rfl⟩,dE,dP⟩:=ag i1 J ew
      obtain⟨_,i3,ar,⟨s,al,rfl⟩,oV,nL⟩:=ag i2 aa dE
      refine⟨_,i3,ar,⟨⟨6,⟨#[]⟩,[r,s]⟩,by rw[Bv];omega,rfl⟩,oV,fun t lv o aj=>?_⟩
      have aL:=eG aj
      have aY:¬lv=o.length:=by omega
      have c5:=fz lI aj
      have bt:=go2 dL (t:=t) aL
      have bq:=go2 dP (t:=t) aL
      have cN:=go2 nL (t:=t) aL
      unfold aU.dC at bq cN⊢
      simp only[List.map_cons,List.map_nil,aU.dv r,aU.dv s]
      rw[run_eq ak 78 _ _ Tryz.func78 (by decide+kernel) rfl (show 2≤_ by decide)]
      dsimp only[Tryz.f78]
      simp only[go_sem,c5,bt,bq,eY,aY,db,wn,Int.reduceBEq]
      rw[arR]
      rotate_left
      ·kernel_rfl
      simp only[go_sem,cN,aY,db,wn,still,eq_self]
     have cw:(x==0)=false:=by simpa using g0
     have bU:(x==1)=false:=by simpa using g1
     have cv:(x==2)=false:=by simpa using g2
     have dn:(x==3)=false:=by simpa using g3
     have ed:(x==4)=false:=by simpa using g4
     have gm:(x==5)=false:=by simpa using g5
     have iz:(x==6)=false:=by simpa using g6
     obtain⟨_,i2,aa,⟨r,aI,rfl⟩,dE,dP⟩:=ag i1 J ew
     obtain⟨_,i3,ar,⟨s,al,rfl⟩,oV,nL⟩:=ag i2 aa dE
     refine⟨_,i3,ar,⟨⟨5,⟨#[]⟩,[r,s]⟩,by rw[Bv];omega,rfl⟩,oV,fun t lv o aj=>?_⟩
     have aL:=eG aj
     have aY:¬lv=o.length:=by omega
     have c5:=fz lI aj
     have bt:=go2 dL (t:=t) aL
     have bq:=go2 dP (t:=t) aL
     have cN:=go2 nL (t:=t) aL
     unfold aU.dC at bq cN⊢
     simp only[List.map_cons,List.map_nil,aU.dv r,aU.dv s]
     rw[run_eq ak 78 _ _ Tryz.func78 (by decide+kernel) rfl (show 2≤_ by decide)]
     dsimp only[Tryz.f78]
     simp only[go_sem,c5,bt,bq,eY,aY,db,wn,cw,bU,cv,dn,ed,gm,iz]
     rw[arR]
     rotate_left
     ·kernel_rfl
     simp only[go_sem,cN,aY,db,wn,still,eq_self]
end Go.aB
namespace Go.aB
open Go Go.Proofs
set_option maxRecDepth 10000
set_option maxHeartbeats 4000000
theorem hk.fn {α:Type} {E:Env} {f:Nat} {args:List V} {l:List Int} {R:α→Prop} {enc:α→V} (h:hk E f args l fun v=>∃x:α,R x∧v=enc x):∃g:Nat→Int→α×Nat×Int,∀i h,i≤l.length→R (g i h).1∧(g i h).2.1≤l.length∧∀(t lv:Nat) (o:List (Nat→Option ax)),bV t lv o=some (cur l i h)→run E f (.ptr lv t 0::args) o=some (enc (g i h).1,cP t (cur l (g i h).2.1 (g i h).2.2) lv o):=by
 have:∀(i:Nat) (x:Int),∃y:α×Nat×Int,i≤l.length→R y.1∧y.2.1≤l.length∧∀(t lv:Nat) (o:List (Nat→Option ax)),bV t lv o=some (cur l i x)→run E f (.ptr lv t 0::args) o=some (enc y.1,cP t (cur l y.2.1 y.2.2) lv o):=by
  intro i x
  obtain⟨_,_,_,⟨a0,_,rfl⟩,_⟩:=h 0 0 (Nat.zero_le _)
  by_cases hi:i≤l.length
  ·obtain⟨_,hl,aZ,⟨a,aO,rfl⟩,dI,aI⟩:=h i x hi
   exact⟨(a,hl,aZ),fun _=>⟨aO,dI,aI⟩⟩
  ·exact⟨(a0,0,0),fun h=>absurd h hi⟩
 exact⟨fun i x=>Classical.choose (this i x),fun i x=>Classical.choose_spec (this i x)⟩
theorem hk.imp {E:Env} {f:Nat} {args:List V} {l:List Int} {P Q:V→Prop} (h:hk E f args l P) (aE:∀v,P v→Q v):hk E f args l Q:=fun i x hi=>by
 obtain⟨v,hl,aZ,J,aa,ar⟩:=h i x hi
 exact⟨v,hl,aZ,aE v J,aa,ar⟩
def ef {α β:Type} (g:Nat→Int→α×Nat×Int) (st:β→α→β) (z:β×Nat×Int):Nat→β×Nat×Int
 | 0=>z
 | k+1=>(st (ef g st z k).1 (g (ef g st z k).2.1 (ef g st z k).2.2).1,(g (ef g st z k).2.1 (ef g st z k).2.2).2)
theorem Fx (most:Nat) (hm:most<256) (l:List Int) (ai:l.length≤1048576):hk ak 71 [.int .i64 most] l fun v=>∃s:ByteArray,s.size≤most∧v=.str s:=by
 intro i h hi
 have e2:=cr (n:=most) (by omega)
 obtain⟨_,i1,J,⟨x,fW,dK,rfl⟩,ew,dL⟩:=oU ((most+1:Nat):Int) (by omega) (by omega) l ai i h hi
 obtain⟨n,rfl⟩:∃n:Nat,x=n:=⟨x.toNat,by omega⟩
 have aC:n≤most:=by omega
 obtain⟨g,av⟩:=hk.fn (enc:=V.str) (R:=fun w:ByteArray=>w.size=1) ((qJ [⟨#[97]⟩,⟨#[98]⟩,⟨#[97]⟩,⟨#[98]⟩,⟨#[99]⟩] (by decide) (by decide) l ai).imp fun v ⟨w,hw,e⟩=>⟨w,by
  simp only[List.mem_cons,List.not_mem_nil,or_false]at hw
  rcases hw with rfl | rfl | rfl | rfl | rfl<;>rfl,e⟩)
 have aJ:∀k,(ef g (·++·) (⟨#[]⟩,i1,J) k).1.size=k∧(ef g (·++·) (⟨#[]⟩,i1,J) k).2.1≤l.length:=by
  intro k
  induction k with
  | zero=>exact⟨rfl,ew⟩
  | succ k ag=>
    obtain⟨bt,bq,_⟩:=av _ (ef g (·++·) (⟨#[]⟩,i1,J) k).2.2 ag.2
    exact⟨by show(_++_:ByteArray).size=_;rw[ByteArray.size_append,ag.1,bt],bq⟩
 refine⟨_,(ef g (·++·) (⟨#[]⟩,i1,J) n).2.1,(ef g (·++·) (⟨#[]⟩,i1,J) n).2.2,⟨_,by rw[(aJ n).1];exact aC,rfl⟩,(aJ n).2,fun t lv o aj=>?_⟩
 have aL:=eG aj
 have aY:¬lv=o.length:=by omega
 have bt:=fz dL aj
 generalize cn:some (V.str _,cP t _ lv o)=cO
 rw[run_eq ak 71 _ _ Tryz.func71 (by decide+kernel) rfl (show 2≤_ by decide)]
 dsimp only[Tryz.f71]
 simp only[go_sem,e2,bt,aY,db]
 refine cz (fun k:Nat=>k≤n) (fun k=>{t:=ae (ae (ae (ae bH 7 (.int .i64 (k:Int))) 6 (.int .i64 (n:Int))) 5 (.str (ef g (·++·) (⟨#[]⟩,i1,J) k).1)) 0 (.ptr lv t 0),b:=bk,o:=cP t (cur l (ef g (·++·) (⟨#[]⟩,i1,J) k).2.1 (ef g (·++·) (⟨#[]⟩,i1,J) k).2.2) lv o,r:=#[ResultVar.tmp 4],f:=71,n:=23}) (fun _=>cO) (fun k=>n-k) ?_ 0 (Nat.zero_le _)
 intro k ay ag
 by_cases bj:k<n
 rotate_left
 ·have aq:¬(k:Int)<n:=by omega
  obtain rfl:k=n:=by omega
  simp only[go_sem,aq]
  exact cn
 have aq:(k:Int)<n:=by omega
 have hF:=cr (n:=k) (by omega)
 obtain⟨hP,z2⟩:=aJ k
 obtain⟨gl,iy,n7⟩:=av _ (ef g (·++·) (⟨#[]⟩,i1,J) k).2.2 z2
 have bq:=go2 n7 (t:=t) aL
 have a1:=ag (k+1) bj (by omega)
 unfold ef at a1
 dsimp only at a1
 simp only[List.map_cons,List.map_nil]at bq
 generalize ef g (·++·) (⟨#[]⟩,i1,J) k=S at*
 have cN:¬((S.1.size+(g S.2.1 S.2.2).1.size:Nat):Int)>9223372036854775807:=by omega
 simp only[go_sem,aq,bq,aY,db,cN,hF]
 exact a1
theorem aqi (l:List Int) (ai:l.length≤1048576):hk ak 77 [] l fun v=>∃m:cD,m.le∧v=m.enc:=by
 intro i h hi
 obtain⟨_,i1,J,⟨a,aO,rfl⟩,ew,dL⟩:=qJ Br (by decide) (by decide) l ai i h hi
 obtain⟨_,i2,aa,⟨b,ad,rfl⟩,dE,dP⟩:=qJ Bs (by decide) (by decide) l ai i1 J ew
 obtain⟨_,i3,ar,⟨c,ah,rfl⟩,oV,nL⟩:=qJ Bt (by decide) (by decide) l ai i2 aa dE
 simp only[Br,Bs,Bt,List.map_cons,List.map_nil]at dL dP nL
 refine⟨_,i3,ar,⟨⟨a,b,c⟩,⟨Fw (.inl aO),Fw (.inr (.inl ad)),Fw (.inr (.inr (.inl ah)))⟩,rfl⟩,oV,fun t lv o aj=>?_⟩
 have aL:=eG aj
 have aY:¬lv=o.length:=by omega
 have bt:=fz dL aj
 have bq:=go2 dP (t:=t) aL
 have cN:=go2 nL (t:=t) aL
 unfold cD.enc
 rw[run_eq ak 77 _ _ Tryz.func77 (by decide+kernel) rfl (show 1≤_ by decide)]
 dsimp only[Tryz.f77]
 simp only[go_sem,bt,bq,cN,aY,db]
def bQ.dC (l:bQ):V:=.agg [.int .i64 l.kind,.str l.text,.str l.dM.a,.str l.dM.b,.str l.dM.c,.int .i64 l.dB.kind,.str l.dB.dV,.slc true 3 (l.dB.args.map aU.enc)]
theorem LY (l:List Int) (ai:l.length≤1048576):hk ak 46 [] l fun v=>∃x:bQ,kT x∧v=x.dC:=by
 intro i h hi
 have z0:(⟨#[]⟩:ByteArray).size=0:=rfl
 have sF:ee (aU.enc ⟨0,⟨#[]⟩,[]⟩)=0:=by rw[mn];rfl
 obtain⟨_,i1,J,⟨x,fW,dK,rfl⟩,ew,dL⟩:=oU 6 (by decide) (by decide) l ai i h hi
 by_cases g0:x=0
 ·subst g0
  obtain⟨_,i2,aa,⟨s,al,rfl⟩,dE,dP⟩:=Fx 3 (by decide) l ai i1 J ew
  refine⟨_,i2,aa,⟨⟨1,s,⟨⟨#[]⟩,⟨#[]⟩,⟨#[]⟩⟩,⟨0,⟨#[]⟩,[]⟩⟩,⟨by dsimp only;omega,by dsimp only;omega,by dsimp only;omega,by dsimp only;omega,by dsimp only;omega⟩,rfl⟩,dE,fun t lv o aj=>?_⟩
  have aL:=eG aj
  have aY:¬lv=o.length:=by omega
  have bt:=fz dL aj
  have bq:=go2 dP (t:=t) aL
  have wg:∀b,run ak 71 [.ptr lv t 0,.int .i64 3] (b::cP t (cur l i1 J) lv o)=_:=bq
  unfold bQ.dC
  rw[run_eq ak 46 _ _ Tryz.func46 (by decide+kernel) rfl (show 1≤_ by decide)]
  dsimp only[Tryz.f46]
  simp only[go_sem,bt,wg,aY,db,Int.reduceBEq,List.map_nil]
 by_cases g1:x=1
 ·subst g1
  obtain⟨_,i2,aa,⟨s,al,rfl⟩,dE,dP⟩:=Fx 3 (by decide) l ai i1 J ew
  refine⟨_,i2,aa,⟨⟨2,s,⟨⟨#[]⟩,⟨#[]⟩,⟨#[]⟩⟩,⟨0,⟨#[]⟩,[]⟩⟩,⟨by dsimp only;omega,by dsimp only;omega,by dsimp only;omega,by dsimp only;omega,by dsimp only;omega⟩,rfl⟩,dE,fun t lv o aj=>?_⟩
  have aL:=eG aj
  have aY:¬lv=o.length:=by omega
  have bt:=fz dL aj
  have bq:=go2 dP (t:=t) aL
  have wg:∀b,run ak 71 [.ptr lv t 0,.int .i64 3] (b::cP t (cur l i1 J) lv o)=_:=bq
  unfold bQ.dC
  rw[run_eq ak 46 _ _ Tryz.func46 (by decide+kernel) rfl (show 1≤_ by decide)]
  dsimp only[Tryz.f46]
  simp only[go_sem,bt,wg,aY,db,Int.reduceBEq,List.map_nil]
 by_cases g2:x=2
 ·subst g2
  obtain⟨_,i2,aa,⟨m,hm,rfl⟩,dE,dP⟩:=aqi l ai i1 J ew
  refine⟨_,i2,aa,⟨⟨3,⟨#[]⟩,m,⟨0,⟨#[]⟩,[]⟩⟩,⟨by dsimp only;omega,by have:=hm.1;dsimp only;omega,by have:=hm.2.1;dsimp only;omega,by have:=hm.2.2;dsimp only;omega,by dsimp only;omega⟩,rfl⟩,dE,fun t lv o aj=>?_⟩
  have aL:=eG aj
  have aY:¬lv=o.length:=by omega
  have bt:=fz dL aj
  have bq:=go2 dP (t:=t) aL
  unfold cD.enc at bq
  unfold bQ.dC
  rw[run_eq ak 46 _ _ Tryz.func46 (by decide+kernel) rfl (show 1≤_ by decide)]
  dsimp only[Tryz.f46]
  simp only[go_sem,bt,bq,aY,db,Int.reduceBEq,List.map_nil]
 have cw:(x==0)=false:=by simpa using g0
 have bU:(x==1)=false:=by simpa using g1
 have cv:(x==2)=false:=by simpa using g2
 obtain⟨_,i2,aa,⟨r,aI,rfl⟩,dE,dP⟩:=aqh l ai 3 (by decide) i1 J ew
 have arC:ee r.enc≤270:=aI
 refine⟨_,i2,aa,⟨⟨4,⟨#[]⟩,⟨⟨#[]⟩,⟨#[]⟩,⟨#[]⟩⟩,r⟩,⟨by dsimp only;omega,by dsimp only;omega,by dsimp only;omega,by dsimp only;omega,by dsimp only;omega⟩,rfl⟩,dE,fun t lv o aj=>?_⟩
 have aL:=eG aj
 have aY:¬lv=o.length:=by omega
 have bt:=fz dL aj
 have bq:=go2 dP (t:=t) aL
 have wg:∀b,run ak 78 [.ptr lv t 0,.int .i64 3] (b::cP t (cur l i1 J) lv o)=_:=bq
 unfold aU.dC at wg
 unfold bQ.dC
 rw[run_eq ak 46 _ _ Tryz.func46 (by decide+kernel) rfl (show 1≤_ by decide)]
 dsimp only[Tryz.f46]
 simp only[go_sem,bt,wg,aY,db,cw,bU,cv]
theorem aqj (l:List Int) (ai:l.length≤1048576):hk ak 43 [] l fun v=>∃x:List bQ,(x.length≤5∧∀y∈x,kT y)∧v=.agg [.slc true 8 (x.map bQ.enc)]:=by
 intro i h hi
 obtain⟨_,i1,J,⟨x,fW,dK,rfl⟩,ew,dL⟩:=oU 5 (by decide) (by decide) l ai i h hi
 obtain⟨n,rfl⟩:∃n:Nat,x=n:=⟨x.toNat,by omega⟩
 obtain⟨g,av⟩:=hk.fn (LY l ai)
 have aJ:∀k,(ef g (fun a x=>a++[x]) ([],i1,J) k).1.length=k∧(∀y∈(ef g (fun a x=>a++[x]) ([],i1,J) k).1,kT y)∧(ef g (fun a x=>a++[x]) ([],i1,J) k).2.1≤l.length:=by
  intro k
  induction k with
  | zero=>exact⟨rfl,(by intro y aA;cases aA),ew⟩
  | succ k ag=>
    obtain⟨bt,bq,_⟩:=av _ (ef g (fun a x=>a++[x]) ([],i1,J) k).2.2 ag.2.2
    refine⟨by show(_++[_]).length=_;rw[List.length_append,ag.1];rfl,fun y aA=>?_,bq⟩
    rcases List.mem_append.1 aA with aA | aA
    ·exact ag.2.1 y aA
    ·rw[List.mem_singleton.1 aA];exact bt
 refine⟨_,(ef g (fun a x=>a++[x]) ([],i1,J) n).2.1,(ef g (fun a x=>a++[x]) ([],i1,J) n).2.2,⟨_,⟨by rw[(aJ n).1];omega,(aJ n).2.1⟩,rfl⟩,(aJ n).2.2,fun t lv o aj=>?_⟩
 have aL:=eG aj
 have aY:¬lv=o.length:=by omega
 have bt:=fz dL aj
 generalize cn:some (V.agg [V.slc true 8 _],cP t _ lv o)=cO
 rw[run_eq ak 43 _ _ Tryz.func43 (by decide+kernel) rfl (show 1≤_ by decide)]
 dsimp only[Tryz.f43]
 simp only[go_sem,bt,aY,db]
 refine cz (fun k:Nat=>k≤n) (fun k=>{t:=ae (ae (ae (ae (ae bH 5 (.int .i64 (k:Int))) 4 (.int .i64 (n:Int))) 3 (.ptr o.length 3 0)) 2 (.ptr o.length 2 0)) 0 (.ptr lv t 0),b:=ae (ae bk 3 (some (ax.box [.slc true 8 ((ef g (fun a x=>a++[x]) ([],i1,J) k).1.map bQ.enc)]))) 2 (some (ax.box [.slc true 8 []])),o:=cP t (cur l (ef g (fun a x=>a++[x]) ([],i1,J) k).2.1 (ef g (fun a x=>a++[x]) ([],i1,J) k).2.2) lv o,r:=#[ResultVar.cell 2 26],f:=43,n:=22}) (fun _=>cO) (fun k=>n-k) ?_ 0 (Nat.zero_le _)
 intro k ay ag
 by_cases bj:k<n
 rotate_left
 ·have aq:¬(k:Int)<n:=by omega
  obtain rfl:k=n:=by omega
  simp only[go_sem,aq,aY,db]
  exact cn
 have aq:(k:Int)<n:=by omega
 have hF:=cr (n:=k) (by omega)
 obtain⟨hP,_,z2⟩:=aJ k
 obtain⟨gl,iy,n7⟩:=av _ (ef g (fun a x=>a++[x]) ([],i1,J) k).2.2 z2
 have bq:=go2 n7 (t:=t) aL
 have a1:=ag (k+1) bj (by omega)
 unfold ef at a1
 dsimp only at a1
 generalize ef g (fun a x=>a++[x]) ([],i1,J) k=S at*
 have aT:(S.1.length+1)*120≤140737488355328:=by omega
 unfold bQ.dC at bq
 simp only[go_sem,aq]
 rw[Dw 6 (x:=(1,3,[0,2,3,1,4,5,6,7])) (l:=[])]
 rotate_left
 ·kernel_rfl
 ·kernel_rfl
 simp only[go_sem,bq,aY,db,aT,List.length_map,List.map_cons,List.map_nil]
 refine Dv (Q:=fun r=>r=cO) ?_ ?_
 ·congr 1
  funext z
  by_cases aD:14≤z∧z≤20
  ·have:z=14∨z=15∨z=16∨z=17∨z=18∨z=19∨z=20:=by omega
   rcases this with rfl | rfl | rfl | rfl | rfl | rfl | rfl<;>rfl
  ·simp only[qK,if_neg (show ¬z=14 by omega),if_neg (show ¬z=15 by omega),if_neg (show ¬z=16 by omega),if_neg (show ¬z=17 by omega),if_neg (show ¬z=18 by omega),if_neg (show ¬z=19 by omega),if_neg (show ¬z=20 by omega)]
 refine(show ∀T:Nat→V,T 0=V.ptr lv t 0→T 2=V.ptr o.length 2 0→T 3=V.ptr o.length 3 0→T 4=V.int .i64 (n:Int)→T 5=V.int .i64 (k:Int)→aX ak _ {t:=T,b:=_,o:=_,r:=_,f:=_,n:=_}=cO from ?_) _ rfl rfl rfl rfl rfl
 intro T t0 t2 t3 t4 t5
 rw[List.map_append,List.map_cons,List.map_nil]at a1
 simp only[go_sem,aY,db,false_and,if_false,t0,t2,t3,t4,t5,hF]
 exact a1
theorem LZ (l:List Int) (ai:l.length≤1048576):hk ak 18 [] l fun v=>∃x:List bQ,(x.length≤10∧∀y∈x,kT y)∧v=.agg [.slc true 8 (x.map bQ.enc)]:=by
 intro i h hi
 obtain⟨_,i1,J,⟨ls,⟨arD,fk⟩,rfl⟩,ew,dL⟩:=aqj l ai i h hi
 obtain⟨_,i2,aa,⟨x,fW,dK,rfl⟩,dE,dP⟩:=oU 10 (by decide) (by decide) l ai i1 J ew
 by_cases g0:x=0
 ·subst g0
  obtain⟨_,i3,ar,⟨y,ly,gl,rfl⟩,oV,nL⟩:=oU 6 (by decide) (by decide) l ai i2 aa dE
  obtain⟨_,i4,aP,⟨w,hw,rfl⟩,aqk,L0⟩:=qJ [⟨#[97]⟩,⟨#[97,97,97,97]⟩,⟨#[97,97,97,97,97]⟩] (by decide) (by decide) l ai i3 ar oV
  have aD:w.size≤5:=by
   simp only[List.mem_cons,List.not_mem_nil,or_false]at hw
   rcases hw with rfl | rfl | rfl<;>(show _≤_;decide)
  have sF:ee (aU.enc ⟨0,⟨#[]⟩,[]⟩)=0:=by rw[mn];rfl
  have z0:(⟨#[]⟩:ByteArray).size=0:=rfl
  simp only[List.map_cons,List.map_nil]at L0
  refine⟨_,i4,aP,⟨ls++[⟨y,w,⟨⟨#[]⟩,⟨#[]⟩,⟨#[]⟩⟩,⟨0,⟨#[]⟩,[]⟩⟩],⟨by rw[List.length_append];show _+1≤10;omega,fun a aO=>?_⟩,rfl⟩,aqk,fun t lv o aj=>?_⟩
  ·rcases List.mem_append.1 aO with aO | aO
   ·exact fk a aO
   ·rw[List.mem_singleton.1 aO]
    exact⟨by dsimp only;omega,by dsimp only;omega,by dsimp only;omega,by dsimp only;omega,by dsimp only;omega⟩
  have aL:=eG aj
  have aY:¬lv=o.length:=by omega
  have bt:=fz dL aj
  have bq:=go2 dP (t:=t) aL
  have cN:=go2 nL (t:=t) aL
  have gI:=go2 L0 (t:=t) aL
  have aT:(ls.length+1)*120≤140737488355328:=by omega
  rw[List.map_append,List.map_cons,List.map_nil]
  generalize cn:some (V.agg [V.slc true 8 _],cP t _ lv o)=cO
  rw[run_eq ak 18 _ _ Tryz.func18 (by decide+kernel) rfl (show 1≤_ by decide)]
  dsimp only[Tryz.f18]
  simp only[go_sem,bt,bq,aY,db,Int.reduceBEq]
  rw[Dw 4 (x:=(1,3,[0,2,3,1,4,5,6,7,8,9,10,11])) (l:=[(1,6,[0,2,3,4,5,6,1,7,8,9,10,11])])]
  rotate_left
  ·kernel_rfl
  ·kernel_rfl
  simp only[go_sem,cN,gI,aY,db,aT,List.length_map,List.map_cons,List.map_nil]
  refine TR (Q:=fun r=>r=cO) ?_ ?_
  ·congr 1
   funext z
   by_cases aD:10≤z∧z≤20
   ·have:z=10∨z=11∨z=12∨z=13∨z=14∨z=15∨z=16∨z=17∨z=18∨z=19∨z=20:=by omega
    rcases this with rfl | rfl | rfl | rfl | rfl | rfl | rfl | rfl | rfl | rfl | rfl<;>rfl
   ·simp only[qK,if_neg (show ¬z=10 by omega),if_neg (show ¬z=11 by omega),if_neg (show ¬z=12 by omega),if_neg (show ¬z=13 by omega),if_neg (show ¬z=14 by omega),if_neg (show ¬z=15 by omega),if_neg (show ¬z=16 by omega),if_neg (show ¬z=17 by omega),if_neg (show ¬z=18 by omega),if_neg (show ¬z=19 by omega),if_neg (show ¬z=20 by omega)]
  simp only[go_sem,cN,gI,aY,db,aT,List.length_map,List.map_cons,List.map_nil]
  refine Dv (Q:=fun r=>r=cO) ?_ ?_
  ·congr 1
   funext z
   by_cases aD:10≤z∧z≤20
   ·have:z=10∨z=11∨z=12∨z=13∨z=14∨z=15∨z=16∨z=17∨z=18∨z=19∨z=20:=by omega
    rcases this with rfl | rfl | rfl | rfl | rfl | rfl | rfl | rfl | rfl | rfl | rfl<;>rfl
   ·simp only[qK,if_neg (show ¬z=10 by omega),if_neg (show ¬z=11 by omega),if_neg (show ¬z=12 by omega),if_neg (show ¬z=13 by omega),if_neg (show ¬z=14 by omega),if_neg (show ¬z=15 by omega),if_neg (show ¬z=16 by omega),if_neg (show ¬z=17 by omega),if_neg (show ¬z=18 by omega),if_neg (show ¬z=19 by omega),if_neg (show ¬z=20 by omega)]
  refine(show ∀T:Nat→V,T 2=V.ptr o.length 2 0→T 3=V.ptr o.length 3 0→aX ak _ {t:=T,b:=_,o:=_,r:=_,f:=_,n:=_}=cO from ?_) _ rfl rfl
  intro T t2 t3
  simp only[go_sem,aY,db,false_and,if_false,t2,t3]
  exact cn
 by_cases g1:x=1
 rotate_left
 ·have cw:(x==0)=false:=by simpa using g0
  have bU:(x==1)=false:=by simpa using g1
  refine⟨_,i2,aa,⟨ls,⟨by omega,fk⟩,rfl⟩,dE,fun t lv o aj=>?_⟩
  have aL:=eG aj
  have aY:¬lv=o.length:=by omega
  have bt:=fz dL aj
  have bq:=go2 dP (t:=t) aL
  generalize cn:some (V.agg [V.slc true 8 _],cP t _ lv o)=cO
  rw[run_eq ak 18 _ _ Tryz.func18 (by decide+kernel) rfl (show 1≤_ by decide)]
  dsimp only[Tryz.f18]
  simp only[go_sem,bt,bq,aY,db,cw,bU]
  exact cn
 subst g1
 obtain⟨g,av⟩:=hk.fn (LY l ai)
 have aJ:∀k,(ef g (fun a x=>a++[x]) (ls,i2,aa) k).1.length=ls.length+k∧(∀y∈(ef g (fun a x=>a++[x]) (ls,i2,aa) k).1,kT y)∧(ef g (fun a x=>a++[x]) (ls,i2,aa) k).2.1≤l.length:=by
  intro k
  induction k with
  | zero=>exact⟨rfl,fk,dE⟩
  | succ k ag=>
    obtain⟨bt,bq,_⟩:=av _ (ef g (fun a x=>a++[x]) (ls,i2,aa) k).2.2 ag.2.2
    refine⟨by show(_++[_]).length=_;rw[List.length_append,ag.1];rfl,fun y aA=>?_,bq⟩
    rcases List.mem_append.1 aA with aA | aA
    ·exact ag.2.1 y aA
    ·rw[List.mem_singleton.1 aA];exact bt
 refine⟨_,(ef g (fun a x=>a++[x]) (ls,i2,aa) (9-ls.length)).2.1,(ef g (fun a x=>a++[x]) (ls,i2,aa) (9-ls.length)).2.2,⟨_,⟨by rw[(aJ (9-ls.length)).1];omega,(aJ (9-ls.length)).2.1⟩,rfl⟩,(aJ (9-ls.length)).2.2,fun t lv o aj=>?_⟩
 have aL:=eG aj
 have aY:¬lv=o.length:=by omega
 have bt:=fz dL aj
 have bq:=go2 dP (t:=t) aL
 generalize cn:some (V.agg [V.slc true 8 _],cP t _ lv o)=cO
 rw[run_eq ak 18 _ _ Tryz.func18 (by decide+kernel) rfl (show 1≤_ by decide)]
 dsimp only[Tryz.f18]
 simp only[go_sem,bt,bq,aY,db,Int.reduceBEq]
 refine cz (fun k:Nat=>k≤9-ls.length) (fun k=>{t:=ae (ae (ae bH 3 (.ptr o.length 3 0)) 2 (.ptr o.length 2 0)) 0 (.ptr lv t 0),b:=ae (ae bk 3 (some (ax.box [.slc true 8 ((ef g (fun a x=>a++[x]) (ls,i2,aa) k).1.map bQ.enc)]))) 2 (some (ax.box [.slc true 8 []])),o:=cP t (cur l (ef g (fun a x=>a++[x]) (ls,i2,aa) k).2.1 (ef g (fun a x=>a++[x]) (ls,i2,aa) k).2.2) lv o,r:=#[ResultVar.cell 2 26],f:=18,n:=35}) (fun _=>cO) (fun k=>9-ls.length-k) ?_ 0 (Nat.zero_le _)
 intro k ay ag
 obtain⟨hP,_,z2⟩:=aJ k
 by_cases bj:k<9-ls.length
 rotate_left
 ·have aq:¬(((ef g (fun a x=>a++[x]) (ls,i2,aa) k).1.length:Nat):Int)<9:=by omega
  obtain rfl:k=9-ls.length:=by omega
  simp only[go_sem,aq,aY,db,List.length_map,false_and,if_false]
  exact cn
 have aq:(((ef g (fun a x=>a++[x]) (ls,i2,aa) k).1.length:Nat):Int)<9:=by omega
 obtain⟨gl,iy,n7⟩:=av _ (ef g (fun a x=>a++[x]) (ls,i2,aa) k).2.2 z2
 have cN:=go2 n7 (t:=t) aL
 have a1:=ag (k+1) bj (by omega)
 unfold ef at a1
 dsimp only at a1
 generalize ef g (fun a x=>a++[x]) (ls,i2,aa) k=S at*
 have aT:(S.1.length+1)*120≤140737488355328:=by omega
 unfold bQ.dC at cN
 simp only[go_sem,aq,List.length_map,aY,db]
 rw[Dw 7 (x:=(1,3,[0,2,3,1,4,5,6,7])) (l:=[])]
 rotate_left
 ·kernel_rfl
 ·kernel_rfl
 simp only[go_sem,cN,aY,db,aT,List.length_map,List.map_cons,List.map_nil]
 refine Dv (Q:=fun r=>r=cO) ?_ ?_
 ·congr 1
  funext z
  by_cases aD:27≤z∧z≤33
  ·have:z=27∨z=28∨z=29∨z=30∨z=31∨z=32∨z=33:=by omega
   rcases this with rfl | rfl | rfl | rfl | rfl | rfl | rfl<;>rfl
  ·simp only[qK,if_neg (show ¬z=27 by omega),if_neg (show ¬z=28 by omega),if_neg (show ¬z=29 by omega),if_neg (show ¬z=30 by omega),if_neg (show ¬z=31 by omega),if_neg (show ¬z=32 by omega),if_neg (show ¬z=33 by omega)]
 refine(show ∀T:Nat→V,T 0=V.ptr lv t 0→T 2=V.ptr o.length 2 0→T 3=V.ptr o.length 3 0→aX ak _ {t:=T,b:=_,o:=_,r:=_,f:=_,n:=_}=cO from ?_) _ rfl rfl rfl
 intro T t0 t2 t3
 rw[List.map_append,List.map_cons,List.map_nil]at a1
 simp only[go_sem,aY,db,false_and,if_false,t0,t2,t3]
 exact a1
theorem aql (l:List Int) (ai:l.length≤1048576):hk ak 36 [] l fun v=>∃s:ByteArray,s.size≤40∧v=.str s:=by
 intro i h hi
 obtain⟨_,i1,J,⟨s,al,rfl⟩,ew,dL⟩:=Fx 6 (by decide) l ai i h hi
 obtain⟨_,i2,aa,⟨w,hw,rfl⟩,dE,dP⟩:=qJ (yH s) (by simp[yH]) (by simp[yH]) l ai i1 J ew
 have aD:w.size≤40:=by
  simp only[yH,List.mem_cons,List.not_mem_nil,or_false]at hw
  rcases hw with rfl | rfl | rfl | rfl | rfl | rfl | rfl | rfl | rfl | rfl
  all_goals first | omega | (show _≤_;decide)
 simp only[yH,List.map_cons,List.map_nil]at dP
 refine⟨_,i2,aa,⟨w,aD,rfl⟩,dE,fun t lv o aj=>?_⟩
 have aL:=eG aj
 have aY:¬lv=o.length:=by omega
 have bt:∀b,run ak 71 [.ptr lv t 0,.int .i64 6] (b::o)=_:=fz dL aj
 have bq:=go2 dP (t:=t) aL
 rw[run_eq ak 36 _ _ Tryz.func36 (by decide+kernel) rfl (show 1≤_ by decide)]
 dsimp only[Tryz.f36]
 simp only[go_sem,bt,aY,db,bq]
theorem r5 (l:List Int) (ai:l.length≤1048576):∃x:List bQ,(x.length≤10∧∀y∈x,kT y)∧run ak 5 [.slc false 1 (l.map iZ)] []=some (.agg [.slc true 8 (x.map bQ.enc)],[]):=by
 obtain⟨h,aC⟩:=LW l ai
 obtain⟨_,i1,J,⟨x,U,rfl⟩,ew,dL⟩:=LZ l ai 0 h (Nat.zero_le _)
 refine⟨x,U,?_⟩
 have bt:run ak 18 [.ptr 0 4 0] [ae (ae bk 2 (some (ax.box [.slc true 8 []]))) 4 (some (ax.box [.slc false 1 (l.map iZ),.int .i64 0,.int .i64 h]))]=some (_,[ae (ae (ae bk 2 (some (ax.box [.slc true 8 []]))) 4 (some (ax.box [.slc false 1 (l.map iZ),.int .i64 0,.int .i64 h]))) 4 (some (cur l i1 J))]):=dL 4 0 _ rfl
 rw[run_eq ak 5 _ _ Tryz.func5 (by decide+kernel) rfl (show 1≤_ by decide)]
 dsimp only[Tryz.f5]
 simp only[go_sem,aC,bt]
theorem aqm (l:List Int) (ai:l.length≤1048576):∃(x:List bQ) (s:ByteArray),(x.length≤10∧∀y∈x,kT y)∧s.size≤40∧run ak 14 [.slc false 1 (l.map iZ)] []=some (.tup [.agg [.slc false 8 (x.map bQ.enc)],.str s],[]):=by
 obtain⟨h,aC⟩:=LW l ai
 obtain⟨_,i1,J,⟨x,U,rfl⟩,ew,dL⟩:=LZ l ai 0 h (Nat.zero_le _)
 obtain⟨_,i2,aa,⟨s,al,rfl⟩,dE,dP⟩:=aql l ai i1 J ew
 refine⟨x,s,U,al,?_⟩
 have bt:run ak 18 [.ptr 0 4 0] [ae (ae bk 2 (some (ax.box [.slc true 8 []]))) 4 (some (ax.box [.slc false 1 (l.map iZ),.int .i64 0,.int .i64 h]))]=some (_,[ae (ae (ae bk 2 (some (ax.box [.slc true 8 []]))) 4 (some (ax.box [.slc false 1 (l.map iZ),.int .i64 0,.int .i64 h]))) 4 (some (cur l i1 J))]):=dL 4 0 _ rfl
 have bq:∀b:Nat→Option ax,b 4=some (cur l i1 J)→run ak 36 [.ptr 0 4 0] [b]=some (_,[ae b 4 (some (cur l i2 aa))]):=fun b ad=>dP 4 0 [b] ad
 generalize cn:some (V.tup [.agg [.slc false 8 (x.map bQ.enc)],.str s],([]:List (Nat→Option ax)))=cO
 rw[run_eq ak 14 _ _ Tryz.func14 (by decide+kernel) rfl (show 1≤_ by decide)]
 dsimp only[Tryz.f14]
 simp only[go_sem,aC,bt]
 rw[arR]
 rotate_left
 ·kernel_rfl
 have cN:=fun a b c d=>bq (ae (ae (ae (ae (ae bk 2 a) 4 b) 4 (some (cur l i1 J))) 5 c) 5 d) rfl
 simp only[go_sem,still,cN,eq_self]
 exact cn
end Go.aB
namespace Go.aB
open Go Go.Proofs
set_option maxRecDepth 10000
set_option maxHeartbeats 4000000
theorem aqn (n:Nat) (aC:n≤5):∃ws:List ByteArray,ws.length≤243∧(∀w∈ws,w.size≤5∧dx w)∧run ak 32 [.int .i64 n] []=some (.slc false 1 (ws.map V.str),[]):=by
 suffices H:∀Q:yd→Prop,(∀ws:List ByteArray,ws.length≤243→(∀w∈ws,w.size≤5∧dx w)→Q (some (.slc false 1 (ws.map V.str),[])))→Q (run ak 32 [.int .i64 n] [])from
  H (fun x=>∃ws:List ByteArray,ws.length≤243∧(∀w∈ws,w.size≤5∧dx w)∧x=some (.slc false 1 (ws.map V.str),[])) fun ws J aa=>⟨ws,J,aa,rfl⟩
 intro Q e5
 have bt:=vQ n 0 5
 have d1:(decide ((0:Int)≤n)&&decide ((n:Int)≤5))=true:=by
  rw[Bool.and_eq_true,decide_eq_true_eq,decide_eq_true_eq];omega
 rw[d1]at bt
 rw[run_eq ak 32 _ _ Tryz.func32 (by decide+kernel) rfl (show 1≤_ by decide)]
 dsimp only[Tryz.f32]
 simp only[go_sem,bt]
 refine ye (fun x:Nat×List ByteArray=>x.1≤n∧x.2.length=3^x.1∧∀w∈x.2,w.size=x.1∧dx w) (fun x=>{t:=ae (ae (ae bH 4 (.int .i64 (x.1:Int))) 3 (.slc false 1 (x.2.map V.str))) 0 (.int .i64 (n:Int)),b:=bk,o:=[],r:=#[ResultVar.tmp 2],f:=32,n:=43}) Q (fun x=>n-x.1) ?_ (0,[⟨#[]⟩]) ⟨Nat.zero_le _,rfl,by intro w hw;obtain rfl:=List.mem_singleton.1 hw;exact⟨rfl,dx.nil⟩⟩
 rintro⟨k,ws⟩ ⟨ay,ai,al⟩ ag
 dsimp only at ay ai al⊢
 have arM:3^k≤243:=by
  have:=Nat.pow_le_pow_right (show 0<3 by decide) (show k≤5 by omega)
  omega
 by_cases bj:k<n
 rotate_left
 ·have aq:¬(k:Int)<n:=by omega
  have fin:=e5 ws (by omega) (fun w hw=>⟨by rw[(al w hw).1];omega,(al w hw).2⟩)
  simp only[go_sem,aq]
  exact fin
 have aq:(k:Int)<n:=by omega
 have hF:=cr (n:=k) (by omega)
 simp only[go_sem,aq]
 refine ye (fun x:Nat×List ByteArray=>x.1≤ws.length∧x.2.length=3*x.1∧∀w∈x.2,w.size=k+1∧dx w) (fun x=>{t:=ae (ae (ae (ae (ae bH 6 (.int .i64 (x.1:Int))) 5 (.slc true 1 (x.2.map V.str))) 4 (.int .i64 (k:Int))) 3 (.slc false 1 (ws.map V.str))) 0 (.int .i64 (n:Int)),b:=bk,o:=[],r:=#[ResultVar.tmp 2],f:=32,n:=43}) Q (fun x=>ws.length-x.1) ?_ (0,[]) ⟨Nat.zero_le _,rfl,by intro w hw;cases hw⟩
 rintro⟨i,aN⟩ ⟨hi,A8,Fy⟩ iN
 dsimp only at hi A8 Fy⊢
 by_cases n6:i<ws.length
 rotate_left
 ·have aF:¬(i:Int)<ws.length:=by omega
  have e:i=ws.length:=by omega
  have:=ag (k+1,aN) ⟨bj,by show aN.length=3^(k+1);rw[A8,e,ai,Nat.pow_succ];omega,Fy⟩ (by show n-(k+1)<n-k;omega)
  dsimp only at this
  simp only[go_sem,aF,List.length_map,hF]
  exact this
 have aF:(i:Int)<ws.length:=by omega
 have b1:=cr (n:=i) (by omega)
 simp only[go_sem,aF,List.length_map]
 refine ye (fun x:Nat×List ByteArray=>x.1≤3∧x.2.length=3*i+x.1∧∀w∈x.2,w.size=k+1∧dx w) (fun x=>{t:=ae (ae (ae (ae (ae (ae bH 7 (.int .i64 (x.1:Int))) 6 (.int .i64 (i:Int))) 5 (.slc true 1 (x.2.map V.str))) 4 (.int .i64 (k:Int))) 3 (.slc false 1 (ws.map V.str))) 0 (.int .i64 (n:Int)),b:=bk,o:=[],r:=#[ResultVar.tmp 2],f:=32,n:=43}) Q (fun x=>3-x.1) ?_ (0,aN) ⟨Nat.zero_le _,A8,Fy⟩
 rintro⟨j,aN⟩ ⟨au,yt,Fz⟩ aqo
 dsimp only at au yt Fz⊢
 by_cases aqp:j<3
 rotate_left
 ·have aW:¬(j:Int)<3:=by omega
  have:=iN (i+1,aN) ⟨n6,by show aN.length=3*(i+1);omega,Fz⟩ (by show ws.length-(i+1)<ws.length-i;omega)
  dsimp only at this
  simp only[go_sem,aW,b1]
  exact this
 have aW:(j:Int)<3:=by omega
 have j0:(0:Int)≤j:=by omega
 have i0:(0:Int)≤i:=by omega
 have cj:(ByteArray.mk #[97,98,99]).size=3:=rfl
 have ck:((j+1:Nat):Int)≤(ByteArray.mk #[97,98,99]).size:=by rw[cj];omega
 have ek:(j:Int)≤((j+1:Nat):Int):=by omega
 have fX:=cr (n:=j) (by omega)
 have aD:(ByteArray.extract ⟨#[97,98,99]⟩ j (j+1)).size=1:=by rw[ByteArray.size_extract];omega
 obtain⟨hw,rQ⟩:=al _ (List.getElem_mem n6)
 have n1:dx (ByteArray.extract ⟨#[97,98,99]⟩ j (j+1)):=by
  obtain rfl | rfl | rfl:j=0∨j=1∨j=2:=by omega
  all_goals
   intro i hi
   have:i=0:=by omega
   subst this
   rfl
 have cN:¬((ws[i].size+(ByteArray.extract ⟨#[97,98,99]⟩ j (j+1)).size:Nat):Int)>9223372036854775807:=by omega
 have aT:(aN.length+1)*16≤140737488355328:=by omega
 have:=aqo (j+1,aN++[ws[i]++ByteArray.extract ⟨#[97,98,99]⟩ j (j+1)]) ⟨aqp,by simp only[List.length_append,List.length_cons,List.length_nil];omega,fun w cR=>by
  rcases List.mem_append.1 cR with h | h
  ·exact Fz w h
  ·obtain rfl:=List.mem_singleton.1 h
   exact⟨by rw[ByteArray.size_append];omega,dx.app rQ n1⟩⟩ (by show 3-(j+1)<3-j;omega)
 simp only[List.map_append,List.map_cons,List.map_nil]at this
 simp only[go_sem,aW]
 rw[arO]
 rotate_left
 ·kernel_rfl
 simp only[go_sem,aF,ck,ek,j0,i0,fX,cN,aT,yf n6,List.length_map,toNat_cast]
 exact this
theorem aqq (n:Nat) (aC:n≤5):∃ws:List ByteArray,ws.length≤10000∧(∀w∈ws,w.size≤5∧dx w)∧run ak 12 [.int .i64 n] []=some (.slc true 1 (ws.map V.str),[]):=by
 suffices H:∀Q:yd→Prop,(∀ws:List ByteArray,ws.length≤10000→(∀w∈ws,w.size≤5∧dx w)→Q (some (.slc true 1 (ws.map V.str),[])))→Q (run ak 12 [.int .i64 n] [])from
  H (fun x=>∃ws:List ByteArray,ws.length≤10000∧(∀w∈ws,w.size≤5∧dx w)∧x=some (.slc true 1 (ws.map V.str),[])) fun ws J aa=>⟨ws,J,aa,rfl⟩
 intro Q e5
 rw[run_eq ak 12 _ _ Tryz.func12 (by decide+kernel) rfl (show 1≤_ by decide)]
 dsimp only[Tryz.f12]
 simp only[go_sem]
 refine ye (fun x:Nat×List ByteArray=>x.1≤n+1∧x.2.length≤243*x.1∧∀w∈x.2,w.size≤5∧dx w) (fun x=>{t:=ae (ae (ae bH 4 (.int .i64 (x.1:Int))) 3 (.slc true 1 (x.2.map V.str))) 0 (.int .i64 (n:Int)),b:=bk,o:=[],r:=#[ResultVar.tmp 2],f:=12,n:=20}) Q (fun x=>n+1-x.1) ?_ (0,[]) ⟨Nat.zero_le _,Nat.le_refl _,by intro w hw;cases hw⟩
 rintro⟨k,ws⟩ ⟨ay,ai,al⟩ ag
 dsimp only at ay ai al⊢
 by_cases bj:k≤n
 rotate_left
 ·have aq:¬(k:Int)≤n:=by omega
  have fin:=e5 ws (by omega) al
  simp only[go_sem,aq]
  exact fin
 have aq:(k:Int)≤n:=by omega
 have aF:(k:Int)≤5:=by omega
 have hF:=cr (n:=k) (by omega)
 obtain⟨FA,g1,g2,g3⟩:=aqn k (by omega)
 have aT:(ws.length+FA.length)*16≤140737488355328:=by omega
 have:=ag (k+1,ws++FA) ⟨by show k+1≤n+1;omega,by show(ws++FA).length≤_;rw[List.length_append];omega,fun w hw=>by
  rcases List.mem_append.1 hw with h | h
  ·exact al w h
  ·exact g2 w h⟩ (by show n+1-(k+1)<n+1-k;omega)
 simp only[List.map_append]at this
 simp only[go_sem,aq,aF,g3,aT,hF,List.length_map]
 exact this
end Go.aB
namespace Go.aB
open Go Go.Proofs
set_option maxRecDepth 10000
set_option maxHeartbeats 4000000
theorem L1 (n:Nat) (h:1≤n):(decide ((0:Int)≤0)&&decide ((0:Int)≤(n:Int)-1))=true:=by
 rw[Bool.and_eq_true,decide_eq_true_eq,decide_eq_true_eq];omega
theorem L2 (d:ao) (arL:bG d):run ak 47 [.agg [.slc false 1 (d.accept.map B),.slc false 1 (d.next.map bu)]] []=some (.bool true,[]):=by
 have aw:=arL.ok
 have hle:=arL.le
 have bR:=vR d.cU (by show d.accept.length≤_;omega) (by show(d.next.map _).length≤_;rw[List.length_map,aw.1];omega) (by
  intro r aI
  obtain⟨t,_,rfl⟩:=List.mem_map.1 aI
  show 3≤1048576;decide)
 rw[ao.jO,arL.valid]at bR
 exact bR
theorem aqr (d:ao) (arL:bG d) (s:ByteArray) (al:s.size≤1048576) (hw:isWord s=false):run ak 30 [.agg [.slc false 1 (d.accept.map B),.slc false 1 (d.next.map bu)],.int .i64 0,.str s] []=some (.tup [.int .i64 0,.bool false],[]):=by
 have hle:=arL.le
 have arW:=arL.pos
 have bR:=L2 d arL
 have cE:=oN s (by omega)
 rw[hw]at cE
 have ii:=A5 0 0 ((d.accept.length:Int)-1)
 rw[L1 _ arW]at ii
 have cT:IntKind.i64.wrap ((d.accept.length:Int)-1)=(d.accept.length:Int)-1:=hC (by omega) (by omega)
 rw[run_eq ak 30 _ _ Tryz.func30 (by decide+kernel) rfl (show 3≤_ by decide)]
 dsimp only[Tryz.f30]
 simp only[go_sem,bR,cE,ii,cT,List.length_map,Bool.not_true,Bool.not_false]
theorem aqs (d:ao) (arL:bG d) (s:ByteArray) (al:s.size≤1048576) (hw:isWord s=true):run ak 30 [.agg [.slc false 1 (d.accept.map B),.slc false 1 (d.next.map bu)],.int .i64 0,.str s] []=some (.tup [.int .i64 (walk d s 0 0),.bool true],[]):=by
 have hle:=arL.le
 have arW:=arL.pos
 have bR:=L2 d arL
 have cE:=oN s (by omega)
 rw[hw]at cE
 have ii:=A5 0 0 ((d.accept.length:Int)-1)
 rw[L1 _ arW]at ii
 have cT:IntKind.i64.wrap ((d.accept.length:Int)-1)=(d.accept.length:Int)-1:=hC (by omega) (by omega)
 have aO:run ak 35 [.agg [.slc false 1 (d.accept.map B),.slc false 1 (d.next.map bu)],.int .i64 0,.str s] []=_:=tK d arL.ok s (by omega) (rz hw) 0 arW
 rw[run_eq ak 30 _ _ Tryz.func30 (by decide+kernel) rfl (show 3≤_ by decide)]
 dsimp only[Tryz.f30]
 simp only[go_sem,bR,cE,ii,cT,List.length_map,Bool.not_true,Bool.not_false,aO]
theorem aqt (d:ao) (arL:bG d) (s:ByteArray) (al:s.size≤1048576) (hw:isWord s=false):run ak 10 [d.enc,.str s] []=some (.bool (isWord s&&et d s),[]):=by
 have key:=aqr d arL s al hw
 rw[hw]
 simp only[ao.enc]
 rw[run_eq ak 10 _ _ Tryz.func10 (by decide+kernel) rfl (show 2≤_ by decide)]
 dsimp only[Tryz.f10]
 simp only[go_sem,key,Bool.false_and]
theorem aqu (d:ao) (arL:bG d) (s:ByteArray) (al:s.size≤1048576) (hw:isWord s=true):run ak 10 [d.enc,.str s] []=some (.bool (isWord s&&et d s),[]):=by
 have key:=aqs d arL s al hw
 have aL:=mQ arL.ok s _ 0 0 (Nat.le_refl _) arL.pos
 have cf:((walk d s 0 0:Nat):Int)<d.accept.length:=by omega
 have av:∀v:V,(d.accept.map B).getD (walk d s 0 0) v=.bool (et d s):=fun v=>by
  rw[List.getD_eq_getElem?_getD,List.getElem?_map,List.getElem?_eq_getElem aL]
  unfold et
  rw[List.getD_eq_getElem?_getD,List.getElem?_eq_getElem aL]
  rfl
 rw[hw]
 simp only[ao.enc]
 rw[run_eq ak 10 _ _ Tryz.func10 (by decide+kernel) rfl (show 2≤_ by decide)]
 dsimp only[Tryz.f10]
 simp only[go_sem,key,cf,av,List.length_map,toNat_cast,Bool.true_and]
theorem Bw (d:ao) (arL:bG d) (s:ByteArray) (al:s.size≤1048576):run ak 10 [d.enc,.str s] []=some (.bool (isWord s&&et d s),[]):=by
 cases hw:isWord s with
 | false=>rw[←hw];exact aqt d arL s al hw
 | true=>rw[←hw];exact aqu d arL s al hw
theorem aqv (l:List Int) (ai:l.length≤1048576):run ak 29 [.slc false 1 (l.map I),.slc false 1 (l.map I)] []=some (.bool true,[]):=by
 rw[run_eq ak 29 _ _ Tryz.func29 (by decide+kernel) rfl (show 2≤_ by decide)]
 dsimp only[Tryz.f29]
 simp only[go_sem,List.length_map,bne_self_eq_false,beq_self_eq_true,Bool.not_true]
 refine cz (fun i:Nat=>i≤l.length) (fun i=>{t:=ae (ae (ae bH 5 (.int .i64 i)) 1 (.slc false 1 (l.map I))) 0 (.slc false 1 (l.map I)),b:=bk,o:=[],r:=#[ResultVar.tmp 4],f:=29,n:=26}) (fun _=>some (.bool true,[])) (fun i=>l.length-i) ?_ 0 (Nat.zero_le _)
 intro i hi ag
 by_cases h:i<l.length
 rotate_left
 ·have aq:¬(i:Int)<l.length:=by omega
  simp only[go_sem,List.length_map,aq]
 have aq:(i:Int)<l.length:=by omega
 have w:=cr (n:=i) (by omega)
 have a1:=ag (i+1) (by omega) (by omega)
 have av:∀v:V,(l.map I).getD i v=I l[i]:=fun v=>getD_map h v
 simp only[go_sem,List.length_map,aq]
 rw[arO]
 rotate_left
 ·kernel_rfl
 simp only[go_sem,List.length_map,aq,av,toNat_cast,w,bne_self_eq_false,beq_self_eq_true,Bool.not_true]
 exact a1
theorem L3 (x:eQ) (J:x.accept.length≤1048576) (aa:x.next.length≤1048576) (ar:∀r∈x.next,r.length≤1048576):run ak 9 [x.enc,x.enc] []=some (.bool true,[]):=by
 unfold eQ.enc
 rw[run_eq ak 9 _ _ Tryz.func9 (by decide+kernel) rfl (show 2≤_ by decide)]
 dsimp only[Tryz.f9]
 simp only[go_sem,List.length_map,bne_self_eq_false,beq_self_eq_true,Bool.not_true]
 refine cz (fun i:Nat=>i≤x.accept.length) (fun i=>{t:=ae (ae (ae bH 5 (.int .i64 i)) 3 (.ptr 0 3 0)) 2 (.ptr 0 2 0),b:=ae (ae bk 3 (some (ax.box [.slc false 1 (x.accept.map B),.slc false 1 (x.next.map eE)]))) 2 (some (ax.box [.slc false 1 (x.accept.map B),.slc false 1 (x.next.map eE)])),o:=[],r:=#[ResultVar.tmp 4],f:=9,n:=60}) (fun _=>some (.bool true,[])) (fun i=>x.accept.length-i) ?_ 0 (Nat.zero_le _)
 intro i hi ag
 by_cases h:i<x.accept.length
 ·have aq:(i:Int)<x.accept.length:=by omega
  have w:=cr (n:=i) (by omega)
  have a1:=ag (i+1) (by omega) (by omega)
  have av:∀v:V,(x.accept.map B).getD i v=B x.accept[i]:=fun v=>getD_map h v
  simp only[go_sem,List.length_map,aq]
  rw[arO]
  rotate_left
  ·kernel_rfl
  simp only[go_sem,List.length_map,aq,av,toNat_cast,w,bne_self_eq_false,beq_self_eq_true,Bool.not_true]
  exact a1
 have aq:¬(i:Int)<x.accept.length:=by omega
 clear ag
 simp only[go_sem,List.length_map,aq]
 refine cz (fun i:Nat=>i≤x.next.length) (fun i=>{t:=ae (ae (ae bH 6 (.int .i64 i)) 3 (.ptr 0 3 0)) 2 (.ptr 0 2 0),b:=ae (ae bk 3 (some (ax.box [.slc false 1 (x.accept.map B),.slc false 1 (x.next.map eE)]))) 2 (some (ax.box [.slc false 1 (x.accept.map B),.slc false 1 (x.next.map eE)])),o:=[],r:=#[ResultVar.tmp 4],f:=9,n:=60}) (fun _=>some (.bool true,[])) (fun i=>x.next.length-i) ?_ 0 (Nat.zero_le _)
 intro i hi ag
 by_cases h:i<x.next.length
 rotate_left
 ·have aq:¬(i:Int)<x.next.length:=by omega
  simp only[go_sem,List.length_map,aq]
 have aq:(i:Int)<x.next.length:=by omega
 have w:=cr (n:=i) (by omega)
 have a1:=ag (i+1) (by omega) (by omega)
 have av:∀v:V,(x.next.map eE).getD i v=eE x.next[i]:=fun v=>getD_map h v
 have aE:=aqv x.next[i] (ar _ (List.getElem_mem h))
 simp only[go_sem,List.length_map,aq]
 rw[arO]
 rotate_left
 ·kernel_rfl
 simp only[go_sem,List.length_map,aq,av,toNat_cast,aE,eE,w]
 exact a1
theorem r4 (l:List Int) (ai:l.length≤9223372036854775807):run ak 4 [.slc false 1 (l.map iZ)] []=some (.bool (decide ((l.length:Int)>1048576)),[]):=by
 rw[run_eq ak 4 _ _ Tryz.func4 (by decide+kernel) rfl (show 1≤_ by decide)]
 dsimp only[Tryz.f4]
 simp only[go_sem,List.length_map]
end Go.aB
