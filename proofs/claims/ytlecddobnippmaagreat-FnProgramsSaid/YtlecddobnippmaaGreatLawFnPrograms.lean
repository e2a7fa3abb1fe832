/- The row of FnPrograms: an argument that reads as data is laid open as a tree, the law run over trees gives 'true', so the machine's call gives it, and the argument reads as before. Conditions: those of the given statement alone. -/
import Derived.Test.YtlecddobnippmaaGreatRows
import Derived.Test.YtlecddobnippmaaGreatEvA
import Derived.Test.YtlecddobnippmaaGreatEvB
import Derived.Test.YtlecddobnippmaaGreatEvC
import Derived.Test.YtlecddobnippmaaGreatEvD
import Derived.Test.YtlecddobnippmaaGreatEvE
import Derived.Test.YtlecddobnippmaaGreatEvF
import Derived.Test.YtlecddobnippmaaGreatEvG
import Derived.Test.YtlecddobnippmaaGreatEvH
import Derived.Test.YtlecddobnippmaaGreatEvI
import Derived.Test.YtlecddobnippmaaGreatEvJ
import Derived.Test.YtlecddobnippmaaGreatEvK
import Derived.Test.YtlecddobnippmaaGreatEvL
import Derived.Test.YtlecddobnippmaaGreatEvM
import Derived.Test.YtlecddobnippmaaGreatEvN
import Derived.Test.YtlecddobnippmaaGreatEvO
import Derived.Test.YtlecddobnippmaaGreatEvP
import Derived.Test.YtlecddobnippmaaGreatEvQ
import Derived.Test.YtlecddobnippmaaGreatEvR
import Derived.Test.YtlecddobnippmaaGreatEvS
import Derived.Test.YtlecddobnippmaaGreatEvT
import Derived.Test.YtlecddobnippmaaGreatEvU
import Derived.Test.YtlecddobnippmaaGreatEvV
import Derived.Test.YtlecddobnippmaaGreatEvW
import Derived.Test.YtlecddobnippmaaGreatEvX
import Derived.Test.YtlecddobnippmaaGreatEvY
import Derived.Test.YtlecddobnippmaaGreatEvZ
import Derived.Test.YtlecddobnippmaaGreatEvZA
import Derived.Test.YtlecddobnippmaaGreatEvZB
import Derived.Test.YtlecddobnippmaaGreatEvZC
import Derived.Test.YtlecddobnippmaaGreatShelf
import Derived.WalkKit
import Derived.ProofKit
import Derived.OpenShut
import Derived.ShutString
import Derived.ChangeOld
import Derived.Below
import Derived.SizedLaws
import Derived.Carry
namespace Go.Proofs.YtlecddobnippmaaGreat.fnPrograms
open Go.ChangeShapes Go.WideShapes Go.ChangeAt Go.RowKit Go.Proofs.YtlecddobnippmaaGreat
set_option linter.unusedVariables false
set_option linter.unusedSimpArgs false
theorem own:ownKnob Tryz.prog.godebug=none:=by kernel_rfl
theorem laidOut:laidOutB Tryz.prog=true:=by kernel_rfl
theorem aqD:Go.aB.mF Go.aB.ak:=Go.aB.Tk (N:=97) (fun _ _=>rfl) ⟨_,_,Tryz.func97,by decide+kernel,rfl⟩ fun s c w=>Tryz.strings_IndexByte s c w
theorem mixed:Go.aB.ak.P.follows .mixedOrders=true:=by kernel_rfl
set_option maxRecDepth 100000 in
theorem lifted (os:Os) (started:os.Started) (H:Type) (enc:TypeId×Value→H):
 ReturnsInHanded {} Tryz.checked os 3 .any (Rows.fnProgramsSpec.pre6 enc Tryz.prog Tryz.f3 Rows.fnProgramsRow.domain false) (Rows.fnProgramsSpec.post enc Tryz.prog Tryz.f3 false true false false):=by
 refine returnsInHanded_of_change_sized (C:=Tryz.checked) own started (by kernel_rfl) Tryz.func3
  (ChangeSpec.witness6 (enc:=enc) (C:=Tryz.checked) false ⟨#[],#[.slice none 0 0],[]⟩ 8 (by kernel_rfl) (by kernel_rfl) (by kernel_rfl) (by kernel_rfl)) ?_
 intro W base args qW gs before aqE Bi arE arF _
 have yF:∀(j:Nat) t v,Tryz.f3.params[j]?=some t→args[j]?=some v→Value.okWide Tryz.prog W .any base t v:=aqE
 have aqF:=Bi
 obtain⟨p,q,aqG,fR,rfl,arG,h7⟩:=Bi
 have du:DataW.TrodAll enc Tryz.prog W 0 (fun _=>true) true Tryz.f3.params.toList args.toList qW p:=aqG
 rw[Tryz.params3]at du yF
 obtain⟨v0,arH,d0,arI,oP,c5,q6,rfl,rfl,bn,sF⟩:=trodAll_cons du
 obtain⟨rfl,rfl,rfl⟩:=trodAll_nil sF
 obtain rfl:args=#[v0]:=by cases args;simp_all
 obtain⟨rfl,rfl⟩:=trodVars_none fR
 have aqH:∀x∈oP,x.block<W.heap.size:=by obtain⟨m,hm⟩:=bn;exact DataW.trod_lt m _ _ _ hm
 have aqI:=bn
 obtain⟨aqJ,t0⟩:=bn
 obtain⟨a0,arJ,wI,rfl⟩:=okWide_slice Tryz.underlying22 (yF 0 22 v0 rfl rfl)
 obtain⟨arK,T0,_,lI⟩:=Go.aB.XW Go.aB.Op.closed aqJ _ _ _ (Go.aB.Ey (by kernel_rfl)) t0
 obtain⟨fW,bH,qC,aqK⟩:=Go.aB.Op.aqC _ _ T0
 rw[bH]at lI
 have s7:=Go.aB.lx.one lI
 have o0:_∧_:=⟨qC,aqK⟩
 have h:=Go.aB.aqy fW o0
 refine(Go.aB.Rl mixed aqD h rfl (fun i hi=>?_)).mono ?_
 ·match i,hi with
  | 0,_=>exact s7
  | j+1,au=>exact absurd au (by simp)
 rintro e W' ⟨he,L7⟩
 subst he
 exact⟨_,rfl,_,_,_,[],_,[],aqF,trodAll_mk1 (shut_bool Tryz.underlying4 _),(trodAll_cons_mk (Below.trod laidOut (by kernel_rfl) (of_decide_eq_true (by kernel_rfl)) aqI L7 aqH) trodAll_mk0),rfl,L7.frame _,fun h=>by cases h⟩
theorem aqL:Rows.fnProgramsRow.holds Tryz.pinned (OpenSpec.ofChange Rows.fnProgramsSpec):=
 OpenClaim.holds_of_wide 3 Tryz.f3 rfl rfl rfl rfl rfl rfl rfl ⟨rfl,rfl,rfl,rfl,rfl⟩ rfl rfl rfl rfl rfl (by kernel_rfl) Tryz.func3 (by kernel_rfl)
  (of_decide_eq_true (by kernel_rfl)) (by unfold Func.isWrapper;first | (rw[if_pos (by decide+kernel)];kernel_rfl) | (rw[if_neg (by decide+kernel)];exact⟨rfl,rfl⟩))
  (fun os started H enc _=>lifted os started H enc)
theorem proved:Rows.FnProgramsSaid:=aqL
#print axioms proved
end Go.Proofs.YtlecddobnippmaaGreat.fnPrograms
namespace Go.Proofs.YtlecddobnippmaaGreat
theorem fnPrograms_holds:Rows.FnProgramsSaid:=fnPrograms.proved
end Go.Proofs.YtlecddobnippmaaGreat
