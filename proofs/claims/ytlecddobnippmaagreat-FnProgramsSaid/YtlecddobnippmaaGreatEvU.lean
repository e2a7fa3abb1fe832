/- Facts on the seat's types, printed by a program. -/
import Derived.Test.YtlecddobnippmaaGreatProg
import Derived.Test.YtlecddobnippmaaGreatEvO
set_option linter.unusedVariables false
set_option linter.unusedSimpArgs false
namespace Go.aB
open Go Go.Proofs
set_option maxRecDepth 10000
theorem Cv:az Tryz.prog 1=1:=by kernel_rfl
theorem X2:isAgg Tryz.prog 1=false:=by kernel_rfl
theorem X3:zero Tryz.prog 1=some [V.bK]:=by kernel_rfl
theorem w1:Tryz.prog.underlying 2=some (.int .i64):=by kernel_rfl
theorem X4:az Tryz.prog 2=1:=by kernel_rfl
theorem X5:isAgg Tryz.prog 2=false:=by kernel_rfl
theorem X6:zero Tryz.prog 2=some [V.int .i64 0]:=by kernel_rfl
theorem w2:Tryz.prog.underlying 3=some (.int .i64):=by kernel_rfl
theorem X7:az Tryz.prog 3=1:=by kernel_rfl
theorem X8:isAgg Tryz.prog 3=false:=by kernel_rfl
theorem X9:zero Tryz.prog 3=some [V.int .i64 0]:=by kernel_rfl
theorem uJ:Tryz.prog.underlying 4=some .bool:=by kernel_rfl
theorem Ya:az Tryz.prog 4=1:=by kernel_rfl
theorem Yb:isAgg Tryz.prog 4=false:=by kernel_rfl
theorem Yc:zero Tryz.prog 4=some [V.bool false]:=by kernel_rfl
theorem Yd (x y:Bool):ea Tryz.prog 4 (.bool x) (.bool y)=some (x==y):=by kernel_rfl
theorem Cq:Tryz.prog.underlying 5=some (.int .u8):=by kernel_rfl
theorem Ye:az Tryz.prog 5=1:=by kernel_rfl
theorem Ez:isAgg Tryz.prog 5=false:=by kernel_rfl
theorem Yf:zero Tryz.prog 5=some [V.int .u8 0]:=by kernel_rfl
theorem Cr:Tryz.prog.underlying 6=some (.int .u8):=by kernel_rfl
theorem Yg:az Tryz.prog 6=1:=by kernel_rfl
theorem Yh:isAgg Tryz.prog 6=false:=by kernel_rfl
theorem Yi:zero Tryz.prog 6=some [V.int .u8 0]:=by kernel_rfl
theorem Yj:az Tryz.prog 7=4:=by kernel_rfl
theorem Yk:isAgg Tryz.prog 7=true:=by kernel_rfl
theorem Ko:zero Tryz.prog 7=some [V.int .i64 0,V.int .i64 0,V.bool false,V.int .u8 0]:=by kernel_rfl
theorem Yl:gn Tryz.prog 7=some [(2,0,1),(3,1,1),(4,2,1),(6,3,1)]:=by kernel_rfl
theorem Ym (H:Hint) (d:Nat) (ty:TypeId) (ps:Array (Nat×Operand)) (s:ab):bw Tryz.prog H d ty (.build 7 ps) s=fU (fu Tryz.prog [(2,0,1),(3,1,1),(4,2,1),(6,3,1)] s [V.int .i64 0,V.int .i64 0,V.bool false,V.int .u8 0] ps.toList):=gK Yl Ko
theorem Yn (H:Hint) (d:Nat) (ty:TypeId) (ps:Array (Nat×Operand)) (pos:String) (bx:Array Edge) (g:Option (Nat×Bool)):cl Tryz.prog H {dst:=some d,op:=.build 7 ps,type:=ty,pos:=pos,after:=bx,guard:=g}=!aG d H.fa:=by kernel_rfl
theorem Yo (v:V):b3 Tryz.prog 7 0 v=b7 0 v:=by kernel_rfl
theorem Yp (s:ab) (v:V):b2 Tryz.prog s 7 0 v=b9 0 1 false v:=by kernel_rfl
theorem Yq (v:V):b3 Tryz.prog 7 1 v=b7 1 v:=by kernel_rfl
theorem Yr (s:ab) (v:V):b2 Tryz.prog s 7 1 v=b9 1 1 false v:=by kernel_rfl
theorem Ys (v:V):b3 Tryz.prog 7 2 v=b7 2 v:=by kernel_rfl
theorem Yt (s:ab) (v:V):b2 Tryz.prog s 7 2 v=b9 2 1 false v:=by kernel_rfl
theorem Yu (v:V):b3 Tryz.prog 7 3 v=b7 3 v:=by kernel_rfl
theorem Yv (s:ab) (v:V):b2 Tryz.prog s 7 3 v=b9 3 1 false v:=by kernel_rfl
theorem Yw:az Tryz.prog 8=4:=by kernel_rfl
theorem Yx:isAgg Tryz.prog 8=true:=by kernel_rfl
theorem Kp:zero Tryz.prog 8=some [V.int .i64 0,V.int .i64 0,V.bool false,V.int .u8 0]:=by kernel_rfl
theorem Yy:gn Tryz.prog 8=some [(2,0,1),(3,1,1),(4,2,1),(6,3,1)]:=by kernel_rfl
theorem Yz (H:Hint) (d:Nat) (ty:TypeId) (ps:Array (Nat×Operand)) (s:ab):bw Tryz.prog H d ty (.build 8 ps) s=fU (fu Tryz.prog [(2,0,1),(3,1,1),(4,2,1),(6,3,1)] s [V.int .i64 0,V.int .i64 0,V.bool false,V.int .u8 0] ps.toList):=gK Yy Kp
theorem YA (H:Hint) (d:Nat) (ty:TypeId) (ps:Array (Nat×Operand)) (pos:String) (bx:Array Edge) (g:Option (Nat×Bool)):cl Tryz.prog H {dst:=some d,op:=.build 8 ps,type:=ty,pos:=pos,after:=bx,guard:=g}=!aG d H.fa:=by kernel_rfl
theorem YB (v:V):b3 Tryz.prog 8 0 v=b7 0 v:=by kernel_rfl
theorem YC (s:ab) (v:V):b2 Tryz.prog s 8 0 v=b9 0 1 false v:=by kernel_rfl
theorem YD (v:V):b3 Tryz.prog 8 1 v=b7 1 v:=by kernel_rfl
theorem YE (s:ab) (v:V):b2 Tryz.prog s 8 1 v=b9 1 1 false v:=by kernel_rfl
theorem YF (v:V):b3 Tryz.prog 8 2 v=b7 2 v:=by kernel_rfl
theorem YG (s:ab) (v:V):b2 Tryz.prog s 8 2 v=b9 2 1 false v:=by kernel_rfl
theorem YH (v:V):b3 Tryz.prog 8 3 v=b7 3 v:=by kernel_rfl
theorem YI (s:ab) (v:V):b2 Tryz.prog s 8 3 v=b9 3 1 false v:=by kernel_rfl
theorem YJ:Tryz.prog.underlying 9=some .string:=by kernel_rfl
theorem YK:az Tryz.prog 9=1:=by kernel_rfl
theorem YL:isAgg Tryz.prog 9=false:=by kernel_rfl
theorem YM:zero Tryz.prog 9=some [V.str ⟨#[]⟩]:=by kernel_rfl
theorem YN:Tryz.prog.underlying 10=some .string:=by kernel_rfl
theorem YO:az Tryz.prog 10=1:=by kernel_rfl
theorem YP:isAgg Tryz.prog 10=false:=by kernel_rfl
theorem YQ:zero Tryz.prog 10=some [V.str ⟨#[]⟩]:=by kernel_rfl
theorem YR:Tryz.prog.underlying 11=some .string:=by kernel_rfl
theorem YS:az Tryz.prog 11=1:=by kernel_rfl
theorem YT:isAgg Tryz.prog 11=false:=by kernel_rfl
theorem YU:zero Tryz.prog 11=some [V.str ⟨#[]⟩]:=by kernel_rfl
theorem YV:Tryz.prog.underlying 12=some (.int .u64):=by kernel_rfl
theorem YW:az Tryz.prog 12=1:=by kernel_rfl
theorem YX:isAgg Tryz.prog 12=false:=by kernel_rfl
theorem YY:zero Tryz.prog 12=some [V.int .u64 0]:=by kernel_rfl
theorem YZ:az Tryz.prog 13=2:=by kernel_rfl
theorem Y0:isAgg Tryz.prog 13=true:=by kernel_rfl
theorem Kq:zero Tryz.prog 13=some [V.str ⟨#[]⟩,V.int .u64 0]:=by kernel_rfl
theorem Y1:gn Tryz.prog 13=some [(9,0,1),(12,1,1)]:=by kernel_rfl
theorem Y2 (H:Hint) (d:Nat) (ty:TypeId) (ps:Array (Nat×Operand)) (s:ab):bw Tryz.prog H d ty (.build 13 ps) s=fU (fu Tryz.prog [(9,0,1),(12,1,1)] s [V.str ⟨#[]⟩,V.int .u64 0] ps.toList):=gK Y1 Kq
theorem Y3 (H:Hint) (d:Nat) (ty:TypeId) (ps:Array (Nat×Operand)) (pos:String) (bx:Array Edge) (g:Option (Nat×Bool)):cl Tryz.prog H {dst:=some d,op:=.build 13 ps,type:=ty,pos:=pos,after:=bx,guard:=g}=!aG d H.fa:=by kernel_rfl
theorem Y4 (v:V):b3 Tryz.prog 13 0 v=b7 0 v:=by kernel_rfl
theorem Y5 (s:ab) (v:V):b2 Tryz.prog s 13 0 v=b9 0 1 false v:=by kernel_rfl
theorem Y6 (v:V):b3 Tryz.prog 13 1 v=b7 1 v:=by kernel_rfl
theorem Y7 (s:ab) (v:V):b2 Tryz.prog s 13 1 v=b9 1 1 false v:=by kernel_rfl
theorem Y8:az Tryz.prog 14=2:=by kernel_rfl
theorem Y9:isAgg Tryz.prog 14=true:=by kernel_rfl
theorem Kr:zero Tryz.prog 14=some [V.str ⟨#[]⟩,V.int .u64 0]:=by kernel_rfl
theorem Za:gn Tryz.prog 14=some [(9,0,1),(12,1,1)]:=by kernel_rfl
theorem Zb (H:Hint) (d:Nat) (ty:TypeId) (ps:Array (Nat×Operand)) (s:ab):bw Tryz.prog H d ty (.build 14 ps) s=fU (fu Tryz.prog [(9,0,1),(12,1,1)] s [V.str ⟨#[]⟩,V.int .u64 0] ps.toList):=gK Za Kr
theorem Zc (H:Hint) (d:Nat) (ty:TypeId) (ps:Array (Nat×Operand)) (pos:String) (bx:Array Edge) (g:Option (Nat×Bool)):cl Tryz.prog H {dst:=some d,op:=.build 14 ps,type:=ty,pos:=pos,after:=bx,guard:=g}=!aG d H.fa:=by kernel_rfl
theorem Zd (v:V):b3 Tryz.prog 14 0 v=b7 0 v:=by kernel_rfl
theorem Ze (s:ab) (v:V):b2 Tryz.prog s 14 0 v=b9 0 1 false v:=by kernel_rfl
theorem Zf (v:V):b3 Tryz.prog 14 1 v=b7 1 v:=by kernel_rfl
theorem Zg (s:ab) (v:V):b2 Tryz.prog s 14 1 v=b9 1 1 false v:=by kernel_rfl
theorem Zh:Tryz.prog.underlying 15=some (.pointer 147):=by kernel_rfl
theorem Zi:az Tryz.prog 15=1:=by kernel_rfl
theorem Zj:isAgg Tryz.prog 15=false:=by kernel_rfl
theorem Zk:zero Tryz.prog 15=some [V.dD]:=by kernel_rfl
theorem u16:Tryz.prog.underlying 16=some (.pointer 150):=by kernel_rfl
theorem Zl:az Tryz.prog 16=1:=by kernel_rfl
theorem Zm:isAgg Tryz.prog 16=false:=by kernel_rfl
theorem Zn:zero Tryz.prog 16=some [V.dD]:=by kernel_rfl
theorem Zo:Tryz.prog.underlying 17=some (.pointer 160):=by kernel_rfl
theorem Zp:az Tryz.prog 17=1:=by kernel_rfl
theorem Zq:isAgg Tryz.prog 17=false:=by kernel_rfl
theorem Zr:zero Tryz.prog 17=some [V.dD]:=by kernel_rfl
theorem Zs:az Tryz.prog 18=1:=by kernel_rfl
theorem Zt:isAgg Tryz.prog 18=true:=by kernel_rfl
theorem Ks:zero Tryz.prog 18=some [V.dD]:=by kernel_rfl
theorem Zu:gn Tryz.prog 18=some [(17,0,1)]:=by kernel_rfl
theorem Zv (H:Hint) (d:Nat) (ty:TypeId) (ps:Array (Nat×Operand)) (s:ab):bw Tryz.prog H d ty (.build 18 ps) s=fU (fu Tryz.prog [(17,0,1)] s [V.dD] ps.toList):=gK Zu Ks
theorem Zw (H:Hint) (d:Nat) (ty:TypeId) (ps:Array (Nat×Operand)) (pos:String) (bx:Array Edge) (g:Option (Nat×Bool)):cl Tryz.prog H {dst:=some d,op:=.build 18 ps,type:=ty,pos:=pos,after:=bx,guard:=g}=!aG d H.fa:=by kernel_rfl
theorem Zx (v:V):b3 Tryz.prog 18 0 v=b7 0 v:=by kernel_rfl
theorem Zy (s:ab) (v:V):b2 Tryz.prog s 18 0 v=b9 0 1 false v:=by kernel_rfl
theorem Zz:az Tryz.prog 19=1:=by kernel_rfl
theorem ZA:isAgg Tryz.prog 19=true:=by kernel_rfl
theorem Kt:zero Tryz.prog 19=some [V.dD]:=by kernel_rfl
theorem ZB:gn Tryz.prog 19=some [(17,0,1)]:=by kernel_rfl
theorem ZC (H:Hint) (d:Nat) (ty:TypeId) (ps:Array (Nat×Operand)) (s:ab):bw Tryz.prog H d ty (.build 19 ps) s=fU (fu Tryz.prog [(17,0,1)] s [V.dD] ps.toList):=gK ZB Kt
theorem ZD (H:Hint) (d:Nat) (ty:TypeId) (ps:Array (Nat×Operand)) (pos:String) (bx:Array Edge) (g:Option (Nat×Bool)):cl Tryz.prog H {dst:=some d,op:=.build 19 ps,type:=ty,pos:=pos,after:=bx,guard:=g}=!aG d H.fa:=by kernel_rfl
theorem ZE (v:V):b3 Tryz.prog 19 0 v=b7 0 v:=by kernel_rfl
theorem ZF (s:ab) (v:V):b2 Tryz.prog s 19 0 v=b9 0 1 false v:=by kernel_rfl
theorem ZG:Tryz.prog.underlying 21=some (.int .i32):=by kernel_rfl
theorem ZH:az Tryz.prog 21=1:=by kernel_rfl
theorem ZI:isAgg Tryz.prog 21=false:=by kernel_rfl
theorem ZJ:zero Tryz.prog 21=some [V.int .i32 0]:=by kernel_rfl
theorem ZK:Tryz.prog.underlying 22=some (.slice 5):=by kernel_rfl
theorem ZL:az Tryz.prog 22=1:=by kernel_rfl
theorem ZM:isAgg Tryz.prog 22=false:=by kernel_rfl
theorem ZN:elemOf Tryz.prog 22=5:=by kernel_rfl
theorem ZO:c3 Tryz.prog 22=1:=by kernel_rfl
theorem ZP:gY Tryz.prog 22=true:=by kernel_rfl
theorem ZQ:eB Tryz.prog 22=V.int .u8 0:=by kernel_rfl
theorem ZR:zero Tryz.prog 22=some [V.slc true 1 []]:=by kernel_rfl
theorem ZS:az Tryz.prog 23=1:=by kernel_rfl
theorem ZT:isAgg Tryz.prog 23=false:=by kernel_rfl
theorem ZU:zero Tryz.prog 23=some [V.bK]:=by kernel_rfl
theorem ZV:Tryz.prog.underlying 24=some (.slice 56):=by kernel_rfl
theorem ZW:az Tryz.prog 24=1:=by kernel_rfl
theorem ZX:isAgg Tryz.prog 24=false:=by kernel_rfl
theorem ZY:elemOf Tryz.prog 24=56:=by kernel_rfl
theorem ZZ:c3 Tryz.prog 24=8:=by kernel_rfl
theorem Z0:gY Tryz.prog 24=true:=by kernel_rfl
theorem Z1:eB Tryz.prog 24=V.agg [V.int .i64 0,V.str ⟨#[]⟩,V.str ⟨#[]⟩,V.str ⟨#[]⟩,V.str ⟨#[]⟩,V.int .i64 0,V.str ⟨#[]⟩,V.slc false 3 []]:=by kernel_rfl
theorem Z2:zero Tryz.prog 24=some [V.slc true 8 []]:=by kernel_rfl
theorem Z3:az Tryz.prog 25=1:=by kernel_rfl
theorem Z4:isAgg Tryz.prog 25=true:=by kernel_rfl
theorem Ku:zero Tryz.prog 25=some [V.slc true 8 []]:=by kernel_rfl
theorem Z5:gn Tryz.prog 25=some [(24,0,1)]:=by kernel_rfl
theorem Z6 (H:Hint) (d:Nat) (ty:TypeId) (ps:Array (Nat×Operand)) (s:ab):bw Tryz.prog H d ty (.build 25 ps) s=fU (fu Tryz.prog [(24,0,1)] s [V.slc true 8 []] ps.toList):=gK Z5 Ku
theorem Z7 (H:Hint) (d:Nat) (ty:TypeId) (ps:Array (Nat×Operand)) (pos:String) (bx:Array Edge) (g:Option (Nat×Bool)):cl Tryz.prog H {dst:=some d,op:=.build 25 ps,type:=ty,pos:=pos,after:=bx,guard:=g}=!aG d H.fa:=by kernel_rfl
theorem Z8 (v:V):b3 Tryz.prog 25 0 v=b7 0 v:=by kernel_rfl
theorem Z9 (s:ab) (v:V):b2 Tryz.prog s 25 0 v=b9 0 1 false v:=by kernel_rfl
theorem aaa:az Tryz.prog 26=1:=by kernel_rfl
theorem aab:isAgg Tryz.prog 26=true:=by kernel_rfl
theorem Kv:zero Tryz.prog 26=some [V.slc true 8 []]:=by kernel_rfl
theorem aac:gn Tryz.prog 26=some [(24,0,1)]:=by kernel_rfl
theorem aad (H:Hint) (d:Nat) (ty:TypeId) (ps:Array (Nat×Operand)) (s:ab):bw Tryz.prog H d ty (.build 26 ps) s=fU (fu Tryz.prog [(24,0,1)] s [V.slc true 8 []] ps.toList):=gK aac Kv
theorem aae (H:Hint) (d:Nat) (ty:TypeId) (ps:Array (Nat×Operand)) (pos:String) (bx:Array Edge) (g:Option (Nat×Bool)):cl Tryz.prog H {dst:=some d,op:=.build 26 ps,type:=ty,pos:=pos,after:=bx,guard:=g}=!aG d H.fa:=by kernel_rfl
theorem aaf (v:V):b3 Tryz.prog 26 0 v=b7 0 v:=by kernel_rfl
theorem aag (s:ab) (v:V):b2 Tryz.prog s 26 0 v=b9 0 1 false v:=by kernel_rfl
theorem aah:az Tryz.prog 27=1:=by kernel_rfl
theorem aai:isAgg Tryz.prog 27=false:=by kernel_rfl
theorem aaj:zero Tryz.prog 27=some [V.bK]:=by kernel_rfl
theorem aak:Tryz.prog.underlying 28=some (.slice 4):=by kernel_rfl
theorem aal:az Tryz.prog 28=1:=by kernel_rfl
theorem aam:isAgg Tryz.prog 28=false:=by kernel_rfl
theorem aan:elemOf Tryz.prog 28=4:=by kernel_rfl
theorem aao:c3 Tryz.prog 28=1:=by kernel_rfl
theorem aap:gY Tryz.prog 28=true:=by kernel_rfl
theorem aaq:eB Tryz.prog 28=V.bool false:=by kernel_rfl
theorem aar:zero Tryz.prog 28=some [V.slc true 1 []]:=by kernel_rfl
theorem aas:Tryz.prog.underlying 29=some (.slice 62):=by kernel_rfl
theorem aat:az Tryz.prog 29=1:=by kernel_rfl
theorem aau:isAgg Tryz.prog 29=false:=by kernel_rfl
theorem aav:elemOf Tryz.prog 29=62:=by kernel_rfl
theorem aaw:c3 Tryz.prog 29=1:=by kernel_rfl
theorem aax:gY Tryz.prog 29=true:=by kernel_rfl
theorem aay:eB Tryz.prog 29=V.slc false 1 []:=by kernel_rfl
theorem aaz:zero Tryz.prog 29=some [V.slc true 1 []]:=by kernel_rfl
theorem aaA:az Tryz.prog 30=2:=by kernel_rfl
theorem aaB:isAgg Tryz.prog 30=true:=by kernel_rfl
theorem Kw:zero Tryz.prog 30=some [V.slc true 1 [],V.slc true 1 []]:=by kernel_rfl
theorem aaC:gn Tryz.prog 30=some [(28,0,1),(29,1,1)]:=by kernel_rfl
theorem aaD (H:Hint) (d:Nat) (ty:TypeId) (ps:Array (Nat×Operand)) (s:ab):bw Tryz.prog H d ty (.build 30 ps) s=fU (fu Tryz.prog [(28,0,1),(29,1,1)] s [V.slc true 1 [],V.slc true 1 []] ps.toList):=gK aaC Kw
theorem aaE (H:Hint) (d:Nat) (ty:TypeId) (ps:Array (Nat×Operand)) (pos:String) (bx:Array Edge) (g:Option (Nat×Bool)):cl Tryz.prog H {dst:=some d,op:=.build 30 ps,type:=ty,pos:=pos,after:=bx,guard:=g}=!aG d H.fa:=by kernel_rfl
theorem aaF (v:V):b3 Tryz.prog 30 0 v=b7 0 v:=by kernel_rfl
theorem aaG (s:ab) (v:V):b2 Tryz.prog s 30 0 v=b9 0 1 false v:=by kernel_rfl
theorem aaH (v:V):b3 Tryz.prog 30 1 v=b7 1 v:=by kernel_rfl
theorem aaI (s:ab) (v:V):b2 Tryz.prog s 30 1 v=b9 1 1 false v:=by kernel_rfl
theorem aaJ:az Tryz.prog 31=2:=by kernel_rfl
theorem aaK:isAgg Tryz.prog 31=true:=by kernel_rfl
theorem Kx:zero Tryz.prog 31=some [V.slc true 1 [],V.slc true 1 []]:=by kernel_rfl
theorem aaL:gn Tryz.prog 31=some [(28,0,1),(29,1,1)]:=by kernel_rfl
theorem aaM (H:Hint) (d:Nat) (ty:TypeId) (ps:Array (Nat×Operand)) (s:ab):bw Tryz.prog H d ty (.build 31 ps) s=fU (fu Tryz.prog [(28,0,1),(29,1,1)] s [V.slc true 1 [],V.slc true 1 []] ps.toList):=gK aaL Kx
theorem aaN (H:Hint) (d:Nat) (ty:TypeId) (ps:Array (Nat×Operand)) (pos:String) (bx:Array Edge) (g:Option (Nat×Bool)):cl Tryz.prog H {dst:=some d,op:=.build 31 ps,type:=ty,pos:=pos,after:=bx,guard:=g}=!aG d H.fa:=by kernel_rfl
theorem aaO (v:V):b3 Tryz.prog 31 0 v=b7 0 v:=by kernel_rfl
theorem aaP (s:ab) (v:V):b2 Tryz.prog s 31 0 v=b9 0 1 false v:=by kernel_rfl
theorem aaQ (v:V):b3 Tryz.prog 31 1 v=b7 1 v:=by kernel_rfl
theorem aaR (s:ab) (v:V):b2 Tryz.prog s 31 1 v=b9 1 1 false v:=by kernel_rfl
theorem aaS:az Tryz.prog 33=1:=by kernel_rfl
theorem aaT:isAgg Tryz.prog 33=false:=by kernel_rfl
theorem aaU:zero Tryz.prog 33=some [V.bK]:=by kernel_rfl
theorem aaV:az Tryz.prog 35=1:=by kernel_rfl
theorem aaW:isAgg Tryz.prog 35=false:=by kernel_rfl
theorem aaX:zero Tryz.prog 35=some [V.bK]:=by kernel_rfl
theorem aaY:az Tryz.prog 36=1:=by kernel_rfl
theorem aaZ:isAgg Tryz.prog 36=false:=by kernel_rfl
theorem aa0:zero Tryz.prog 36=some [V.bK]:=by kernel_rfl
theorem aa1:az Tryz.prog 37=1:=by kernel_rfl
theorem aa2:isAgg Tryz.prog 37=false:=by kernel_rfl
theorem aa3:zero Tryz.prog 37=some [V.bK]:=by kernel_rfl
theorem aa4:az Tryz.prog 38=1:=by kernel_rfl
theorem aa5:isAgg Tryz.prog 38=false:=by kernel_rfl
theorem aa6:zero Tryz.prog 38=some [V.bK]:=by kernel_rfl
theorem aa7:Tryz.prog.underlying 39=some (.slice 9):=by kernel_rfl
theorem aa8:az Tryz.prog 39=1:=by kernel_rfl
theorem aa9:isAgg Tryz.prog 39=false:=by kernel_rfl
theorem aba:elemOf Tryz.prog 39=9:=by kernel_rfl
theorem abb:c3 Tryz.prog 39=1:=by kernel_rfl
theorem abc:gY Tryz.prog 39=true:=by kernel_rfl
theorem abd:eB Tryz.prog 39=V.str ⟨#[]⟩:=by kernel_rfl
theorem abe:zero Tryz.prog 39=some [V.slc true 1 []]:=by kernel_rfl
theorem abf:az Tryz.prog 40=1:=by kernel_rfl
theorem abg:isAgg Tryz.prog 40=false:=by kernel_rfl
theorem abh:zero Tryz.prog 40=some [V.bK]:=by kernel_rfl
theorem abi:az Tryz.prog 42=1:=by kernel_rfl
theorem abj:isAgg Tryz.prog 42=false:=by kernel_rfl
theorem abk:zero Tryz.prog 42=some [V.bK]:=by kernel_rfl
theorem abl:az Tryz.prog 44=1:=by kernel_rfl
theorem abm:isAgg Tryz.prog 44=false:=by kernel_rfl
theorem abn:zero Tryz.prog 44=some [V.bK]:=by kernel_rfl
theorem abo:az Tryz.prog 45=1:=by kernel_rfl
theorem abp:isAgg Tryz.prog 45=false:=by kernel_rfl
theorem abq:zero Tryz.prog 45=some [V.bK]:=by kernel_rfl
theorem abr:az Tryz.prog 46=1:=by kernel_rfl
theorem abt:isAgg Tryz.prog 46=false:=by kernel_rfl
theorem abu:zero Tryz.prog 46=some [V.bK]:=by kernel_rfl
theorem abv:Tryz.prog.underlying 47=some (.pointer 80):=by kernel_rfl
theorem abw:az Tryz.prog 47=1:=by kernel_rfl
theorem abx:isAgg Tryz.prog 47=false:=by kernel_rfl
theorem aby:zero Tryz.prog 47=some [V.dD]:=by kernel_rfl
theorem abz:az Tryz.prog 48=1:=by kernel_rfl
theorem abA:isAgg Tryz.prog 48=false:=by kernel_rfl
theorem abB:zero Tryz.prog 48=some [V.bK]:=by kernel_rfl
theorem abC:az Tryz.prog 49=1:=by kernel_rfl
theorem abD:isAgg Tryz.prog 49=false:=by kernel_rfl
theorem abE:zero Tryz.prog 49=some [V.bK]:=by kernel_rfl
theorem abF:az Tryz.prog 50=3:=by kernel_rfl
theorem abG:isAgg Tryz.prog 50=true:=by kernel_rfl
theorem Ky:zero Tryz.prog 50=some [V.str ⟨#[]⟩,V.str ⟨#[]⟩,V.str ⟨#[]⟩]:=by kernel_rfl
theorem abH:gn Tryz.prog 50=some [(9,0,1),(9,1,1),(9,2,1)]:=by kernel_rfl
theorem abI (H:Hint) (d:Nat) (ty:TypeId) (ps:Array (Nat×Operand)) (s:ab):bw Tryz.prog H d ty (.build 50 ps) s=fU (fu Tryz.prog [(9,0,1),(9,1,1),(9,2,1)] s [V.str ⟨#[]⟩,V.str ⟨#[]⟩,V.str ⟨#[]⟩] ps.toList):=gK abH Ky
theorem abJ (H:Hint) (d:Nat) (ty:TypeId) (ps:Array (Nat×Operand)) (pos:String) (bx:Array Edge) (g:Option (Nat×Bool)):cl Tryz.prog H {dst:=some d,op:=.build 50 ps,type:=ty,pos:=pos,after:=bx,guard:=g}=!aG d H.fa:=by kernel_rfl
theorem abK (v:V):b3 Tryz.prog 50 0 v=b7 0 v:=by kernel_rfl
theorem abL (s:ab) (v:V):b2 Tryz.prog s 50 0 v=b9 0 1 false v:=by kernel_rfl
theorem abM (v:V):b3 Tryz.prog 50 1 v=b7 1 v:=by kernel_rfl
theorem abN (s:ab) (v:V):b2 Tryz.prog s 50 1 v=b9 1 1 false v:=by kernel_rfl
theorem abO (v:V):b3 Tryz.prog 50 2 v=b7 2 v:=by kernel_rfl
theorem abP (s:ab) (v:V):b2 Tryz.prog s 50 2 v=b9 2 1 false v:=by kernel_rfl
theorem abQ:az Tryz.prog 51=3:=by kernel_rfl
theorem abR:isAgg Tryz.prog 51=true:=by kernel_rfl
theorem Kz:zero Tryz.prog 51=some [V.str ⟨#[]⟩,V.str ⟨#[]⟩,V.str ⟨#[]⟩]:=by kernel_rfl
theorem abS:gn Tryz.prog 51=some [(9,0,1),(9,1,1),(9,2,1)]:=by kernel_rfl
theorem abT (H:Hint) (d:Nat) (ty:TypeId) (ps:Array (Nat×Operand)) (s:ab):bw Tryz.prog H d ty (.build 51 ps) s=fU (fu Tryz.prog [(9,0,1),(9,1,1),(9,2,1)] s [V.str ⟨#[]⟩,V.str ⟨#[]⟩,V.str ⟨#[]⟩] ps.toList):=gK abS Kz
theorem abU (H:Hint) (d:Nat) (ty:TypeId) (ps:Array (Nat×Operand)) (pos:String) (bx:Array Edge) (g:Option (Nat×Bool)):cl Tryz.prog H {dst:=some d,op:=.build 51 ps,type:=ty,pos:=pos,after:=bx,guard:=g}=!aG d H.fa:=by kernel_rfl
theorem abV (v:V):b3 Tryz.prog 51 0 v=b7 0 v:=by kernel_rfl
theorem abW (s:ab) (v:V):b2 Tryz.prog s 51 0 v=b9 0 1 false v:=by kernel_rfl
theorem abX (v:V):b3 Tryz.prog 51 1 v=b7 1 v:=by kernel_rfl
theorem abY (s:ab) (v:V):b2 Tryz.prog s 51 1 v=b9 1 1 false v:=by kernel_rfl
theorem abZ (v:V):b3 Tryz.prog 51 2 v=b7 2 v:=by kernel_rfl
theorem ab0 (s:ab) (v:V):b2 Tryz.prog s 51 2 v=b9 2 1 false v:=by kernel_rfl
theorem ab1 (fW ly:ByteArray) (dK gl:ByteArray) (kc iy:ByteArray):ea Tryz.prog 51 (.agg [V.str fW,V.str dK,V.str kc]) (.agg [V.str ly,V.str gl,V.str iy])=some ((fW.toList==ly.toList)&&((dK.toList==gl.toList)&&((kc.toList==iy.toList)&&true))):=by kernel_rfl
theorem ab2:Tryz.prog.eqGuardType Tryz.prog.depth 51=false:=by kernel_rfl
theorem ab3:Tryz.prog.underlying 52=some (.slice 54):=by kernel_rfl
theorem ab4:az Tryz.prog 52=1:=by kernel_rfl
theorem ab5:isAgg Tryz.prog 52=false:=by kernel_rfl
theorem ab6:elemOf Tryz.prog 52=54:=by kernel_rfl
theorem ab7:c3 Tryz.prog 52=3:=by kernel_rfl
theorem ab8:gY Tryz.prog 52=true:=by kernel_rfl
theorem ab9:eB Tryz.prog 52=V.agg [V.int .i64 0,V.str ⟨#[]⟩,V.slc false 3 []]:=by kernel_rfl
theorem aca:zero Tryz.prog 52=some [V.slc true 3 []]:=by kernel_rfl
theorem acb:az Tryz.prog 53=3:=by kernel_rfl
theorem acd:isAgg Tryz.prog 53=true:=by kernel_rfl
theorem KA:zero Tryz.prog 53=some [V.int .i64 0,V.str ⟨#[]⟩,V.slc true 3 []]:=by kernel_rfl
theorem ace:gn Tryz.prog 53=some [(3,0,1),(9,1,1),(52,2,1)]:=by kernel_rfl
theorem acf (H:Hint) (d:Nat) (ty:TypeId) (ps:Array (Nat×Operand)) (s:ab):bw Tryz.prog H d ty (.build 53 ps) s=fU (fu Tryz.prog [(3,0,1),(9,1,1),(52,2,1)] s [V.int .i64 0,V.str ⟨#[]⟩,V.slc true 3 []] ps.toList):=gK ace KA
theorem acg (H:Hint) (d:Nat) (ty:TypeId) (ps:Array (Nat×Operand)) (pos:String) (bx:Array Edge) (g:Option (Nat×Bool)):cl Tryz.prog H {dst:=some d,op:=.build 53 ps,type:=ty,pos:=pos,after:=bx,guard:=g}=!aG d H.fa:=by kernel_rfl
theorem ach (v:V):b3 Tryz.prog 53 0 v=b7 0 v:=by kernel_rfl
theorem aci (s:ab) (v:V):b2 Tryz.prog s 53 0 v=b9 0 1 false v:=by kernel_rfl
theorem acj (v:V):b3 Tryz.prog 53 1 v=b7 1 v:=by kernel_rfl
theorem ack (s:ab) (v:V):b2 Tryz.prog s 53 1 v=b9 1 1 false v:=by kernel_rfl
theorem acm (v:V):b3 Tryz.prog 53 2 v=b7 2 v:=by kernel_rfl
theorem acn (s:ab) (v:V):b2 Tryz.prog s 53 2 v=b9 2 1 false v:=by kernel_rfl
theorem aco:az Tryz.prog 54=3:=by kernel_rfl
theorem acp:isAgg Tryz.prog 54=true:=by kernel_rfl
theorem KB:zero Tryz.prog 54=some [V.int .i64 0,V.str ⟨#[]⟩,V.slc true 3 []]:=by kernel_rfl
theorem acq:gn Tryz.prog 54=some [(3,0,1),(9,1,1),(52,2,1)]:=by kernel_rfl
theorem acr (H:Hint) (d:Nat) (ty:TypeId) (ps:Array (Nat×Operand)) (s:ab):bw Tryz.prog H d ty (.build 54 ps) s=fU (fu Tryz.prog [(3,0,1),(9,1,1),(52,2,1)] s [V.int .i64 0,V.str ⟨#[]⟩,V.slc true 3 []] ps.toList):=gK acq KB
theorem acs (H:Hint) (d:Nat) (ty:TypeId) (ps:Array (Nat×Operand)) (pos:String) (bx:Array Edge) (g:Option (Nat×Bool)):cl Tryz.prog H {dst:=some d,op:=.build 54 ps,type:=ty,pos:=pos,after:=bx,guard:=g}=!aG d H.fa:=by kernel_rfl
theorem acu (v:V):b3 Tryz.prog 54 0 v=b7 0 v:=by kernel_rfl
theorem acv (s:ab) (v:V):b2 Tryz.prog s 54 0 v=b9 0 1 false v:=by kernel_rfl
theorem acw (v:V):b3 Tryz.prog 54 1 v=b7 1 v:=by kernel_rfl
theorem acx (s:ab) (v:V):b2 Tryz.prog s 54 1 v=b9 1 1 false v:=by kernel_rfl
theorem acy (v:V):b3 Tryz.prog 54 2 v=b7 2 v:=by kernel_rfl
theorem acz (s:ab) (v:V):b2 Tryz.prog s 54 2 v=b9 2 1 false v:=by kernel_rfl
theorem acA:az Tryz.prog 55=8:=by kernel_rfl
theorem acB:isAgg Tryz.prog 55=true:=by kernel_rfl
theorem KC:zero Tryz.prog 55=some [V.int .i64 0,V.str ⟨#[]⟩,V.str ⟨#[]⟩,V.str ⟨#[]⟩,V.str ⟨#[]⟩,V.int .i64 0,V.str ⟨#[]⟩,V.slc true 3 []]:=by kernel_rfl
theorem acC:gn Tryz.prog 55=some [(3,0,1),(9,1,1),(51,2,3),(54,5,3)]:=by kernel_rfl
theorem acD (H:Hint) (d:Nat) (ty:TypeId) (ps:Array (Nat×Operand)) (s:ab):bw Tryz.prog H d ty (.build 55 ps) s=fU (fu Tryz.prog [(3,0,1),(9,1,1),(51,2,3),(54,5,3)] s [V.int .i64 0,V.str ⟨#[]⟩,V.str ⟨#[]⟩,V.str ⟨#[]⟩,V.str ⟨#[]⟩,V.int .i64 0,V.str ⟨#[]⟩,V.slc true 3 []] ps.toList):=gK acC KC
theorem acE (H:Hint) (d:Nat) (ty:TypeId) (ps:Array (Nat×Operand)) (pos:String) (bx:Array Edge) (g:Option (Nat×Bool)):cl Tryz.prog H {dst:=some d,op:=.build 55 ps,type:=ty,pos:=pos,after:=bx,guard:=g}=!aG d H.fa:=by kernel_rfl
theorem acF (v:V):b3 Tryz.prog 55 0 v=b7 0 v:=by kernel_rfl
theorem acG (s:ab) (v:V):b2 Tryz.prog s 55 0 v=b9 0 1 false v:=by kernel_rfl
theorem acH (v:V):b3 Tryz.prog 55 1 v=b7 1 v:=by kernel_rfl
theorem acI (s:ab) (v:V):b2 Tryz.prog s 55 1 v=b9 1 1 false v:=by kernel_rfl
theorem acJ (v:V):b3 Tryz.prog 55 2 v=b7 2 v:=by kernel_rfl
theorem acK (s:ab) (v:V):b2 Tryz.prog s 55 2 v=b9 2 3 true v:=by kernel_rfl
theorem acL (v:V):b3 Tryz.prog 55 3 v=b7 5 v:=by kernel_rfl
theorem acM (s:ab) (v:V):b2 Tryz.prog s 55 3 v=b9 5 3 true v:=by kernel_rfl
theorem acN:az Tryz.prog 56=8:=by kernel_rfl
theorem acO:isAgg Tryz.prog 56=true:=by kernel_rfl
theorem KD:zero Tryz.prog 56=some [V.int .i64 0,V.str ⟨#[]⟩,V.str ⟨#[]⟩,V.str ⟨#[]⟩,V.str ⟨#[]⟩,V.int .i64 0,V.str ⟨#[]⟩,V.slc true 3 []]:=by kernel_rfl
theorem acP:gn Tryz.prog 56=some [(3,0,1),(9,1,1),(51,2,3),(54,5,3)]:=by kernel_rfl
theorem acQ (H:Hint) (d:Nat) (ty:TypeId) (ps:Array (Nat×Operand)) (s:ab):bw Tryz.prog H d ty (.build 56 ps) s=fU (fu Tryz.prog [(3,0,1),(9,1,1),(51,2,3),(54,5,3)] s [V.int .i64 0,V.str ⟨#[]⟩,V.str ⟨#[]⟩,V.str ⟨#[]⟩,V.str ⟨#[]⟩,V.int .i64 0,V.str ⟨#[]⟩,V.slc true 3 []] ps.toList):=gK acP KD
theorem acR (H:Hint) (d:Nat) (ty:TypeId) (ps:Array (Nat×Operand)) (pos:String) (bx:Array Edge) (g:Option (Nat×Bool)):cl Tryz.prog H {dst:=some d,op:=.build 56 ps,type:=ty,pos:=pos,after:=bx,guard:=g}=!aG d H.fa:=by kernel_rfl
theorem acS (v:V):b3 Tryz.prog 56 0 v=b7 0 v:=by kernel_rfl
theorem acT (s:ab) (v:V):b2 Tryz.prog s 56 0 v=b9 0 1 false v:=by kernel_rfl
theorem acU (v:V):b3 Tryz.prog 56 1 v=b7 1 v:=by kernel_rfl
theorem acV (s:ab) (v:V):b2 Tryz.prog s 56 1 v=b9 1 1 false v:=by kernel_rfl
theorem acW (v:V):b3 Tryz.prog 56 2 v=b7 2 v:=by kernel_rfl
theorem acX (s:ab) (v:V):b2 Tryz.prog s 56 2 v=b9 2 3 true v:=by kernel_rfl
theorem acY (v:V):b3 Tryz.prog 56 3 v=b7 5 v:=by kernel_rfl
theorem acZ (s:ab) (v:V):b2 Tryz.prog s 56 3 v=b9 5 3 true v:=by kernel_rfl
theorem ac0:az Tryz.prog 57=1:=by kernel_rfl
theorem ac1:isAgg Tryz.prog 57=false:=by kernel_rfl
theorem ac2:zero Tryz.prog 57=some [V.bK]:=by kernel_rfl
theorem ac3:az Tryz.prog 58=1:=by kernel_rfl
theorem ac4:isAgg Tryz.prog 58=false:=by kernel_rfl
theorem ac5:zero Tryz.prog 58=some [V.bK]:=by kernel_rfl
theorem ac6:az Tryz.prog 59=1:=by kernel_rfl
theorem ac7:isAgg Tryz.prog 59=false:=by kernel_rfl
theorem ac8:zero Tryz.prog 59=some [V.bK]:=by kernel_rfl
theorem ac9:az Tryz.prog 60=1:=by kernel_rfl
theorem ada:isAgg Tryz.prog 60=false:=by kernel_rfl
theorem adb:zero Tryz.prog 60=some [V.bK]:=by kernel_rfl
theorem ade:az Tryz.prog 61=1:=by kernel_rfl
theorem adf:isAgg Tryz.prog 61=false:=by kernel_rfl
theorem adg:zero Tryz.prog 61=some [V.bK]:=by kernel_rfl
theorem adh:Tryz.prog.underlying 62=some (.slice 3):=by kernel_rfl
theorem adi:az Tryz.prog 62=1:=by kernel_rfl
theorem adj:isAgg Tryz.prog 62=false:=by kernel_rfl
theorem adk:elemOf Tryz.prog 62=3:=by kernel_rfl
theorem adl:c3 Tryz.prog 62=1:=by kernel_rfl
theorem adm:gY Tryz.prog 62=true:=by kernel_rfl
theorem adn:eB Tryz.prog 62=V.int .i64 0:=by kernel_rfl
theorem ado:zero Tryz.prog 62=some [V.slc true 1 []]:=by kernel_rfl
theorem adp:az Tryz.prog 63=1:=by kernel_rfl
theorem adq:isAgg Tryz.prog 63=false:=by kernel_rfl
theorem adr:zero Tryz.prog 63=some [V.bK]:=by kernel_rfl
theorem ads:az Tryz.prog 65=1:=by kernel_rfl
theorem adt:isAgg Tryz.prog 65=false:=by kernel_rfl
theorem adu:zero Tryz.prog 65=some [V.bK]:=by kernel_rfl
theorem adv:az Tryz.prog 66=1:=by kernel_rfl
theorem adw:isAgg Tryz.prog 66=false:=by kernel_rfl
theorem adx:zero Tryz.prog 66=some [V.bK]:=by kernel_rfl
theorem ady:az Tryz.prog 68=1:=by kernel_rfl
theorem adz:isAgg Tryz.prog 68=false:=by kernel_rfl
theorem adA:zero Tryz.prog 68=some [V.bK]:=by kernel_rfl
theorem adB:az Tryz.prog 69=1:=by kernel_rfl
theorem adC:isAgg Tryz.prog 69=false:=by kernel_rfl
theorem adD:zero Tryz.prog 69=some [V.bK]:=by kernel_rfl
theorem adE:az Tryz.prog 70=1:=by kernel_rfl
theorem adF:isAgg Tryz.prog 70=false:=by kernel_rfl
theorem adG:zero Tryz.prog 70=some [V.bK]:=by kernel_rfl
theorem adH:az Tryz.prog 71=1:=by kernel_rfl
theorem adI:isAgg Tryz.prog 71=false:=by kernel_rfl
theorem adJ:zero Tryz.prog 71=some [V.bK]:=by kernel_rfl
theorem adK:az Tryz.prog 72=1:=by kernel_rfl
theorem adL:isAgg Tryz.prog 72=false:=by kernel_rfl
theorem adM:zero Tryz.prog 72=some [V.bK]:=by kernel_rfl
theorem adN:az Tryz.prog 73=1:=by kernel_rfl
theorem adO:isAgg Tryz.prog 73=false:=by kernel_rfl
theorem adP:zero Tryz.prog 73=some [V.bK]:=by kernel_rfl
theorem adQ:az Tryz.prog 74=1:=by kernel_rfl
theorem adR:isAgg Tryz.prog 74=false:=by kernel_rfl
theorem adS:zero Tryz.prog 74=some [V.bK]:=by kernel_rfl
theorem adT:az Tryz.prog 75=1:=by kernel_rfl
theorem adU:isAgg Tryz.prog 75=false:=by kernel_rfl
theorem adV:zero Tryz.prog 75=some [V.bK]:=by kernel_rfl
theorem adW:az Tryz.prog 76=1:=by kernel_rfl
theorem adX:isAgg Tryz.prog 76=false:=by kernel_rfl
theorem adY:zero Tryz.prog 76=some [V.bK]:=by kernel_rfl
theorem adZ:az Tryz.prog 77=1:=by kernel_rfl
theorem ad0:isAgg Tryz.prog 77=false:=by kernel_rfl
theorem ad1:zero Tryz.prog 77=some [V.bK]:=by kernel_rfl
theorem ad2:az Tryz.prog 78=1:=by kernel_rfl
theorem ad3:isAgg Tryz.prog 78=false:=by kernel_rfl
theorem ad4:zero Tryz.prog 78=some [V.bK]:=by kernel_rfl
theorem ad5:az Tryz.prog 79=3:=by kernel_rfl
theorem ad6:isAgg Tryz.prog 79=true:=by kernel_rfl
theorem KE:zero Tryz.prog 79=some [V.slc true 1 [],V.int .i64 0,V.int .i64 0]:=by kernel_rfl
theorem ad7:gn Tryz.prog 79=some [(22,0,1),(3,1,1),(3,2,1)]:=by kernel_rfl
theorem ad8 (H:Hint) (d:Nat) (ty:TypeId) (ps:Array (Nat×Operand)) (s:ab):bw Tryz.prog H d ty (.build 79 ps) s=fU (fu Tryz.prog [(22,0,1),(3,1,1),(3,2,1)] s [V.slc true 1 [],V.int .i64 0,V.int .i64 0] ps.toList):=gK ad7 KE
theorem ad9 (H:Hint) (d:Nat) (ty:TypeId) (ps:Array (Nat×Operand)) (pos:String) (bx:Array Edge) (g:Option (Nat×Bool)):cl Tryz.prog H {dst:=some d,op:=.build 79 ps,type:=ty,pos:=pos,after:=bx,guard:=g}=!aG d H.fa:=by kernel_rfl
theorem aea (v:V):b3 Tryz.prog 79 0 v=b7 0 v:=by kernel_rfl
theorem aeb (s:ab) (v:V):b2 Tryz.prog s 79 0 v=b9 0 1 false v:=by kernel_rfl
theorem aec (v:V):b3 Tryz.prog 79 1 v=b7 1 v:=by kernel_rfl
theorem aed (s:ab) (v:V):b2 Tryz.prog s 79 1 v=b9 1 1 false v:=by kernel_rfl
theorem aee (v:V):b3 Tryz.prog 79 2 v=b7 2 v:=by kernel_rfl
theorem aef (s:ab) (v:V):b2 Tryz.prog s 79 2 v=b9 2 1 false v:=by kernel_rfl
theorem aeg:az Tryz.prog 80=3:=by kernel_rfl
theorem aeh:isAgg Tryz.prog 80=true:=by kernel_rfl
theorem KF:zero Tryz.prog 80=some [V.slc true 1 [],V.int .i64 0,V.int .i64 0]:=by kernel_rfl
theorem aei:gn Tryz.prog 80=some [(22,0,1),(3,1,1),(3,2,1)]:=by kernel_rfl
theorem aej (H:Hint) (d:Nat) (ty:TypeId) (ps:Array (Nat×Operand)) (s:ab):bw Tryz.prog H d ty (.build 80 ps) s=fU (fu Tryz.prog [(22,0,1),(3,1,1),(3,2,1)] s [V.slc true 1 [],V.int .i64 0,V.int .i64 0] ps.toList):=gK aei KF
theorem aek (H:Hint) (d:Nat) (ty:TypeId) (ps:Array (Nat×Operand)) (pos:String) (bx:Array Edge) (g:Option (Nat×Bool)):cl Tryz.prog H {dst:=some d,op:=.build 80 ps,type:=ty,pos:=pos,after:=bx,guard:=g}=!aG d H.fa:=by kernel_rfl
theorem ael (v:V):b3 Tryz.prog 80 0 v=b7 0 v:=by kernel_rfl
theorem aem (s:ab) (v:V):b2 Tryz.prog s 80 0 v=b9 0 1 false v:=by kernel_rfl
theorem aen (v:V):b3 Tryz.prog 80 1 v=b7 1 v:=by kernel_rfl
theorem aeo (s:ab) (v:V):b2 Tryz.prog s 80 1 v=b9 1 1 false v:=by kernel_rfl
theorem aep (v:V):b3 Tryz.prog 80 2 v=b7 2 v:=by kernel_rfl
theorem aeq (s:ab) (v:V):b2 Tryz.prog s 80 2 v=b9 2 1 false v:=by kernel_rfl
theorem aer:az Tryz.prog 81=1:=by kernel_rfl
theorem aes:isAgg Tryz.prog 81=false:=by kernel_rfl
theorem aet:zero Tryz.prog 81=some [V.bK]:=by kernel_rfl
theorem aeu:az Tryz.prog 82=1:=by kernel_rfl
theorem aev:isAgg Tryz.prog 82=false:=by kernel_rfl
theorem aew:zero Tryz.prog 82=some [V.bK]:=by kernel_rfl
theorem aex:az Tryz.prog 83=1:=by kernel_rfl
theorem aey:isAgg Tryz.prog 83=false:=by kernel_rfl
theorem aez:zero Tryz.prog 83=some [V.bK]:=by kernel_rfl
theorem aeA:az Tryz.prog 84=1:=by kernel_rfl
theorem aeB:isAgg Tryz.prog 84=false:=by kernel_rfl
theorem aeC:zero Tryz.prog 84=some [V.bK]:=by kernel_rfl
theorem aeD:Tryz.prog.underlying 85=some (.slice 88):=by kernel_rfl
theorem aeE:az Tryz.prog 85=1:=by kernel_rfl
theorem aeF:isAgg Tryz.prog 85=false:=by kernel_rfl
theorem aeG:elemOf Tryz.prog 85=88:=by kernel_rfl
theorem aeH:c3 Tryz.prog 85=2:=by kernel_rfl
theorem aeI:gY Tryz.prog 85=true:=by kernel_rfl
theorem aeJ:eB Tryz.prog 85=V.agg [V.int .i64 0,V.int .i64 0]:=by kernel_rfl
theorem aeK:zero Tryz.prog 85=some [V.slc true 2 []]:=by kernel_rfl
theorem aeL:az Tryz.prog 87=1:=by kernel_rfl
theorem aeM:isAgg Tryz.prog 87=false:=by kernel_rfl
theorem aeN:zero Tryz.prog 87=some [V.bK]:=by kernel_rfl
theorem aeO (H:Hint) (d:Nat) (ty:TypeId) (ps:Array (Nat×Operand)) (pos:String) (bx:Array Edge) (g:Option (Nat×Bool)):cl Tryz.prog H {dst:=some d,op:=.build 88 ps,type:=ty,pos:=pos,after:=bx,guard:=g}=aG d H.fa:=by kernel_rfl
theorem aeP:Tryz.prog.underlying 88=some (.array 2 3):=by kernel_rfl
theorem aeQ:az Tryz.prog 88=2:=by kernel_rfl
theorem aeR:isAgg Tryz.prog 88=true:=by kernel_rfl
theorem aeS:elemOf Tryz.prog 88=3:=by kernel_rfl
theorem aeT:c3 Tryz.prog 88=1:=by kernel_rfl
theorem aeU:zero Tryz.prog 88=some [V.int .i64 0,V.int .i64 0]:=by kernel_rfl
theorem aeV:az Tryz.prog 89=1:=by kernel_rfl
theorem aeW:isAgg Tryz.prog 89=false:=by kernel_rfl
theorem aeX:zero Tryz.prog 89=some [V.bK]:=by kernel_rfl
theorem aeY:az Tryz.prog 90=1:=by kernel_rfl
theorem aeZ:isAgg Tryz.prog 90=false:=by kernel_rfl
theorem ae0:zero Tryz.prog 90=some [V.bK]:=by kernel_rfl
theorem ae1:az Tryz.prog 91=1:=by kernel_rfl
theorem ae2:isAgg Tryz.prog 91=false:=by kernel_rfl
theorem ae3:zero Tryz.prog 91=some [V.bK]:=by kernel_rfl
theorem ae4:az Tryz.prog 92=1:=by kernel_rfl
theorem ae5:isAgg Tryz.prog 92=false:=by kernel_rfl
theorem ae6:zero Tryz.prog 92=some [V.bK]:=by kernel_rfl
theorem ae7:az Tryz.prog 93=1:=by kernel_rfl
theorem ae8:isAgg Tryz.prog 93=false:=by kernel_rfl
theorem ae9:zero Tryz.prog 93=some [V.bK]:=by kernel_rfl
theorem afa:az Tryz.prog 94=1:=by kernel_rfl
theorem afb:isAgg Tryz.prog 94=false:=by kernel_rfl
theorem afc:zero Tryz.prog 94=some [V.bK]:=by kernel_rfl
theorem afd:az Tryz.prog 95=1:=by kernel_rfl
theorem afe:isAgg Tryz.prog 95=false:=by kernel_rfl
theorem aff:zero Tryz.prog 95=some [V.bK]:=by kernel_rfl
theorem afg:az Tryz.prog 96=1:=by kernel_rfl
theorem afh:isAgg Tryz.prog 96=false:=by kernel_rfl
theorem afi:zero Tryz.prog 96=some [V.bK]:=by kernel_rfl
theorem afj:az Tryz.prog 97=1:=by kernel_rfl
theorem afk:isAgg Tryz.prog 97=false:=by kernel_rfl
theorem afl:zero Tryz.prog 97=some [V.bK]:=by kernel_rfl
theorem afm:az Tryz.prog 98=1:=by kernel_rfl
theorem afn:isAgg Tryz.prog 98=false:=by kernel_rfl
theorem afo:zero Tryz.prog 98=some [V.bK]:=by kernel_rfl
theorem afp:az Tryz.prog 99=1:=by kernel_rfl
theorem afq:isAgg Tryz.prog 99=false:=by kernel_rfl
theorem afr:zero Tryz.prog 99=some [V.bK]:=by kernel_rfl
theorem afs:az Tryz.prog 100=1:=by kernel_rfl
theorem aft:isAgg Tryz.prog 100=false:=by kernel_rfl
theorem afu:zero Tryz.prog 100=some [V.bK]:=by kernel_rfl
theorem afv:az Tryz.prog 101=1:=by kernel_rfl
theorem afw:isAgg Tryz.prog 101=false:=by kernel_rfl
theorem afx:zero Tryz.prog 101=some [V.bK]:=by kernel_rfl
theorem afy:az Tryz.prog 102=1:=by kernel_rfl
theorem afz:isAgg Tryz.prog 102=false:=by kernel_rfl
theorem afA:zero Tryz.prog 102=some [V.bK]:=by kernel_rfl
theorem afB:az Tryz.prog 103=1:=by kernel_rfl
theorem afC:isAgg Tryz.prog 103=false:=by kernel_rfl
theorem afD:zero Tryz.prog 103=some [V.bK]:=by kernel_rfl
theorem afE:az Tryz.prog 104=1:=by kernel_rfl
theorem afF:isAgg Tryz.prog 104=false:=by kernel_rfl
theorem afG:zero Tryz.prog 104=some [V.bK]:=by kernel_rfl
theorem afH:az Tryz.prog 105=1:=by kernel_rfl
theorem afI:isAgg Tryz.prog 105=false:=by kernel_rfl
theorem afJ:zero Tryz.prog 105=some [V.bK]:=by kernel_rfl
theorem afK:Tryz.prog.underlying 106=some (.map 3 3):=by kernel_rfl
theorem afL:az Tryz.prog 106=1:=by kernel_rfl
theorem afM:isAgg Tryz.prog 106=false:=by kernel_rfl
theorem afN:Tryz.prog.underlying 107=some (.map 108 3):=by kernel_rfl
theorem afO:az Tryz.prog 107=1:=by kernel_rfl
theorem afP:isAgg Tryz.prog 107=false:=by kernel_rfl
theorem afQ (H:Hint) (d:Nat) (ty:TypeId) (ps:Array (Nat×Operand)) (pos:String) (bx:Array Edge) (g:Option (Nat×Bool)):cl Tryz.prog H {dst:=some d,op:=.build 108 ps,type:=ty,pos:=pos,after:=bx,guard:=g}=aG d H.fa:=by kernel_rfl
theorem afR:Tryz.prog.underlying 108=some (.array 4 3):=by kernel_rfl
theorem afS:az Tryz.prog 108=4:=by kernel_rfl
theorem afT:isAgg Tryz.prog 108=true:=by kernel_rfl
theorem afU:elemOf Tryz.prog 108=3:=by kernel_rfl
theorem afV:c3 Tryz.prog 108=1:=by kernel_rfl
theorem afW:zero Tryz.prog 108=some [V.int .i64 0,V.int .i64 0,V.int .i64 0,V.int .i64 0]:=by kernel_rfl
theorem afX:az Tryz.prog 109=1:=by kernel_rfl
theorem afY:isAgg Tryz.prog 109=false:=by kernel_rfl
theorem afZ:zero Tryz.prog 109=some [V.bK]:=by kernel_rfl
theorem af0:Tryz.prog.underlying 110=some (.slice 31):=by kernel_rfl
theorem af1:az Tryz.prog 110=1:=by kernel_rfl
theorem af2:isAgg Tryz.prog 110=false:=by kernel_rfl
theorem af3:elemOf Tryz.prog 110=31:=by kernel_rfl
theorem af4:c3 Tryz.prog 110=2:=by kernel_rfl
theorem af5:gY Tryz.prog 110=true:=by kernel_rfl
theorem af6:eB Tryz.prog 110=V.agg [V.slc false 1 [],V.slc false 1 []]:=by kernel_rfl
theorem af7:zero Tryz.prog 110=some [V.slc true 2 []]:=by kernel_rfl
theorem af8:az Tryz.prog 111=1:=by kernel_rfl
theorem af9:isAgg Tryz.prog 111=false:=by kernel_rfl
theorem aga:zero Tryz.prog 111=some [V.bK]:=by kernel_rfl
theorem agb:az Tryz.prog 112=1:=by kernel_rfl
theorem agc:isAgg Tryz.prog 112=false:=by kernel_rfl
theorem agd:zero Tryz.prog 112=some [V.bK]:=by kernel_rfl
theorem age:Tryz.prog.underlying 113=some (.map 88 3):=by kernel_rfl
theorem agf:az Tryz.prog 113=1:=by kernel_rfl
theorem agh:isAgg Tryz.prog 113=false:=by kernel_rfl
theorem agi:az Tryz.prog 114=1:=by kernel_rfl
theorem agj:isAgg Tryz.prog 114=false:=by kernel_rfl
theorem agk:zero Tryz.prog 114=some [V.bK]:=by kernel_rfl
theorem agl:az Tryz.prog 115=1:=by kernel_rfl
theorem agm:isAgg Tryz.prog 115=false:=by kernel_rfl
theorem agn:zero Tryz.prog 115=some [V.bK]:=by kernel_rfl
theorem ago:Tryz.prog.underlying 116=some (.int .u64):=by kernel_rfl
theorem agp:az Tryz.prog 116=1:=by kernel_rfl
theorem agq:isAgg Tryz.prog 116=false:=by kernel_rfl
theorem agr:zero Tryz.prog 116=some [V.int .u64 0]:=by kernel_rfl
theorem ags:az Tryz.prog 117=1:=by kernel_rfl
theorem agt:isAgg Tryz.prog 117=false:=by kernel_rfl
theorem agu:zero Tryz.prog 117=some [V.bK]:=by kernel_rfl
theorem agv:az Tryz.prog 118=1:=by kernel_rfl
theorem agw:isAgg Tryz.prog 118=false:=by kernel_rfl
theorem agx:zero Tryz.prog 118=some [V.bK]:=by kernel_rfl
theorem agy:az Tryz.prog 119=1:=by kernel_rfl
theorem agz:isAgg Tryz.prog 119=false:=by kernel_rfl
theorem agA:zero Tryz.prog 119=some [V.bK]:=by kernel_rfl
theorem agB:az Tryz.prog 120=1:=by kernel_rfl
theorem agC:isAgg Tryz.prog 120=false:=by kernel_rfl
theorem agD:zero Tryz.prog 120=some [V.bK]:=by kernel_rfl
theorem agE:Tryz.prog.underlying 121=some (.int .u64):=by kernel_rfl
theorem agF:az Tryz.prog 121=1:=by kernel_rfl
theorem agG:isAgg Tryz.prog 121=false:=by kernel_rfl
theorem agH:zero Tryz.prog 121=some [V.int .u64 0]:=by kernel_rfl
theorem agI:az Tryz.prog 122=2:=by kernel_rfl
theorem agJ:isAgg Tryz.prog 122=true:=by kernel_rfl
theorem KG:zero Tryz.prog 122=some [V.int .i64 0,V.int .u64 0]:=by kernel_rfl
theorem agK:gn Tryz.prog 122=some [(3,0,1),(121,1,1)]:=by kernel_rfl
theorem agL (H:Hint) (d:Nat) (ty:TypeId) (ps:Array (Nat×Operand)) (s:ab):bw Tryz.prog H d ty (.build 122 ps) s=fU (fu Tryz.prog [(3,0,1),(121,1,1)] s [V.int .i64 0,V.int .u64 0] ps.toList):=gK agK KG
theorem agM (H:Hint) (d:Nat) (ty:TypeId) (ps:Array (Nat×Operand)) (pos:String) (bx:Array Edge) (g:Option (Nat×Bool)):cl Tryz.prog H {dst:=some d,op:=.build 122 ps,type:=ty,pos:=pos,after:=bx,guard:=g}=!aG d H.fa:=by kernel_rfl
theorem agN (v:V):b3 Tryz.prog 122 0 v=b7 0 v:=by kernel_rfl
theorem agO (s:ab) (v:V):b2 Tryz.prog s 122 0 v=b9 0 1 false v:=by kernel_rfl
theorem agP (v:V):b3 Tryz.prog 122 1 v=b7 1 v:=by kernel_rfl
theorem agQ (s:ab) (v:V):b2 Tryz.prog s 122 1 v=b9 1 1 false v:=by kernel_rfl
theorem agR (fW ly:Int) (dK gl:Int):ea Tryz.prog 122 (.agg [V.int .i64 fW,V.int .u64 dK]) (.agg [V.int .i64 ly,V.int .u64 gl])=some ((fW==ly)&&((dK==gl)&&true)):=by kernel_rfl
theorem agS:Tryz.prog.eqGuardType Tryz.prog.depth 122=false:=by kernel_rfl
theorem agT:az Tryz.prog 123=2:=by kernel_rfl
theorem agU:isAgg Tryz.prog 123=true:=by kernel_rfl
theorem KH:zero Tryz.prog 123=some [V.int .i64 0,V.int .u64 0]:=by kernel_rfl
theorem agV:gn Tryz.prog 123=some [(3,0,1),(121,1,1)]:=by kernel_rfl
theorem agW (H:Hint) (d:Nat) (ty:TypeId) (ps:Array (Nat×Operand)) (s:ab):bw Tryz.prog H d ty (.build 123 ps) s=fU (fu Tryz.prog [(3,0,1),(121,1,1)] s [V.int .i64 0,V.int .u64 0] ps.toList):=gK agV KH
theorem agX (H:Hint) (d:Nat) (ty:TypeId) (ps:Array (Nat×Operand)) (pos:String) (bx:Array Edge) (g:Option (Nat×Bool)):cl Tryz.prog H {dst:=some d,op:=.build 123 ps,type:=ty,pos:=pos,after:=bx,guard:=g}=!aG d H.fa:=by kernel_rfl
theorem agY (v:V):b3 Tryz.prog 123 0 v=b7 0 v:=by kernel_rfl
theorem agZ (s:ab) (v:V):b2 Tryz.prog s 123 0 v=b9 0 1 false v:=by kernel_rfl
theorem ag0 (v:V):b3 Tryz.prog 123 1 v=b7 1 v:=by kernel_rfl
theorem ag1 (s:ab) (v:V):b2 Tryz.prog s 123 1 v=b9 1 1 false v:=by kernel_rfl
theorem KI (fW ly:Int) (dK gl:Int):ea Tryz.prog 123 (.agg [V.int .i64 fW,V.int .u64 dK]) (.agg [V.int .i64 ly,V.int .u64 gl])=some ((fW==ly)&&((dK==gl)&&true)):=by kernel_rfl
theorem ag2:Tryz.prog.eqGuardType Tryz.prog.depth 123=false:=by kernel_rfl
theorem ag3:az Tryz.prog 124=1:=by kernel_rfl
theorem ag4:isAgg Tryz.prog 124=false:=by kernel_rfl
theorem ag5:zero Tryz.prog 124=some [V.bK]:=by kernel_rfl
theorem ag6:Tryz.prog.underlying 125=some (.slice 123):=by kernel_rfl
theorem ag7:az Tryz.prog 125=1:=by kernel_rfl
theorem ag8:isAgg Tryz.prog 125=false:=by kernel_rfl
theorem ag9:elemOf Tryz.prog 125=123:=by kernel_rfl
theorem aha:c3 Tryz.prog 125=2:=by kernel_rfl
theorem ahb:gY Tryz.prog 125=true:=by kernel_rfl
theorem ahc:eB Tryz.prog 125=V.agg [V.int .i64 0,V.int .u64 0]:=by kernel_rfl
theorem ahd:zero Tryz.prog 125=some [V.slc true 2 []]:=by kernel_rfl
theorem ahe:az Tryz.prog 127=1:=by kernel_rfl
theorem ahf:isAgg Tryz.prog 127=false:=by kernel_rfl
theorem ahg:zero Tryz.prog 127=some [V.bK]:=by kernel_rfl
theorem ahh:az Tryz.prog 128=1:=by kernel_rfl
theorem ahi:isAgg Tryz.prog 128=false:=by kernel_rfl
theorem ahj:zero Tryz.prog 128=some [V.bK]:=by kernel_rfl
theorem ahk:az Tryz.prog 129=1:=by kernel_rfl
theorem ahl:isAgg Tryz.prog 129=false:=by kernel_rfl
theorem ahm:zero Tryz.prog 129=some [V.bK]:=by kernel_rfl
theorem ahn:az Tryz.prog 130=1:=by kernel_rfl
theorem aho:isAgg Tryz.prog 130=false:=by kernel_rfl
theorem ahp:zero Tryz.prog 130=some [V.bK]:=by kernel_rfl
theorem ahq:az Tryz.prog 131=1:=by kernel_rfl
theorem ahr:isAgg Tryz.prog 131=false:=by kernel_rfl
theorem ahs:zero Tryz.prog 131=some [V.bK]:=by kernel_rfl
theorem aht:az Tryz.prog 132=1:=by kernel_rfl
theorem ahu:isAgg Tryz.prog 132=false:=by kernel_rfl
theorem ahv:zero Tryz.prog 132=some [V.bK]:=by kernel_rfl
theorem ahw:az Tryz.prog 133=1:=by kernel_rfl
theorem ahx:isAgg Tryz.prog 133=false:=by kernel_rfl
theorem ahy:zero Tryz.prog 133=some [V.bK]:=by kernel_rfl
theorem ahz:az Tryz.prog 134=1:=by kernel_rfl
theorem ahA:isAgg Tryz.prog 134=false:=by kernel_rfl
theorem ahB:zero Tryz.prog 134=some [V.bK]:=by kernel_rfl
theorem ahC:Tryz.prog.underlying 135=some (.map 123 3):=by kernel_rfl
theorem ahD:az Tryz.prog 135=1:=by kernel_rfl
theorem ahE:isAgg Tryz.prog 135=false:=by kernel_rfl
theorem ahF:az Tryz.prog 136=1:=by kernel_rfl
theorem ahG:isAgg Tryz.prog 136=false:=by kernel_rfl
theorem ahH:zero Tryz.prog 136=some [V.bK]:=by kernel_rfl
theorem ahI:az Tryz.prog 137=1:=by kernel_rfl
theorem ahJ:isAgg Tryz.prog 137=false:=by kernel_rfl
theorem ahK:zero Tryz.prog 137=some [V.bK]:=by kernel_rfl
theorem ahL:az Tryz.prog 138=3:=by kernel_rfl
theorem ahM:isAgg Tryz.prog 138=true:=by kernel_rfl
theorem KJ:zero Tryz.prog 138=some [V.int .i64 0,V.slc true 1 [],V.bool false]:=by kernel_rfl
theorem ahN:gn Tryz.prog 138=some [(3,0,1),(62,1,1),(4,2,1)]:=by kernel_rfl
theorem ahO (H:Hint) (d:Nat) (ty:TypeId) (ps:Array (Nat×Operand)) (s:ab):bw Tryz.prog H d ty (.build 138 ps) s=fU (fu Tryz.prog [(3,0,1),(62,1,1),(4,2,1)] s [V.int .i64 0,V.slc true 1 [],V.bool false] ps.toList):=gK ahN KJ
theorem ahP (H:Hint) (d:Nat) (ty:TypeId) (ps:Array (Nat×Operand)) (pos:String) (bx:Array Edge) (g:Option (Nat×Bool)):cl Tryz.prog H {dst:=some d,op:=.build 138 ps,type:=ty,pos:=pos,after:=bx,guard:=g}=!aG d H.fa:=by kernel_rfl
theorem ahQ (v:V):b3 Tryz.prog 138 0 v=b7 0 v:=by kernel_rfl
theorem ahR (s:ab) (v:V):b2 Tryz.prog s 138 0 v=b9 0 1 false v:=by kernel_rfl
theorem ahS (v:V):b3 Tryz.prog 138 1 v=b7 1 v:=by kernel_rfl
theorem ahT (s:ab) (v:V):b2 Tryz.prog s 138 1 v=b9 1 1 false v:=by kernel_rfl
theorem ahU (v:V):b3 Tryz.prog 138 2 v=b7 2 v:=by kernel_rfl
theorem ahV (s:ab) (v:V):b2 Tryz.prog s 138 2 v=b9 2 1 false v:=by kernel_rfl
theorem ahW:az Tryz.prog 139=3:=by kernel_rfl
theorem ahX:isAgg Tryz.prog 139=true:=by kernel_rfl
theorem KK:zero Tryz.prog 139=some [V.int .i64 0,V.slc true 1 [],V.bool false]:=by kernel_rfl
theorem ahY:gn Tryz.prog 139=some [(3,0,1),(62,1,1),(4,2,1)]:=by kernel_rfl
theorem ahZ (H:Hint) (d:Nat) (ty:TypeId) (ps:Array (Nat×Operand)) (s:ab):bw Tryz.prog H d ty (.build 139 ps) s=fU (fu Tryz.prog [(3,0,1),(62,1,1),(4,2,1)] s [V.int .i64 0,V.slc true 1 [],V.bool false] ps.toList):=gK ahY KK
theorem ah0 (H:Hint) (d:Nat) (ty:TypeId) (ps:Array (Nat×Operand)) (pos:String) (bx:Array Edge) (g:Option (Nat×Bool)):cl Tryz.prog H {dst:=some d,op:=.build 139 ps,type:=ty,pos:=pos,after:=bx,guard:=g}=!aG d H.fa:=by kernel_rfl
theorem ah1 (v:V):b3 Tryz.prog 139 0 v=b7 0 v:=by kernel_rfl
theorem ah2 (s:ab) (v:V):b2 Tryz.prog s 139 0 v=b9 0 1 false v:=by kernel_rfl
theorem ah3 (v:V):b3 Tryz.prog 139 1 v=b7 1 v:=by kernel_rfl
theorem ah4 (s:ab) (v:V):b2 Tryz.prog s 139 1 v=b9 1 1 false v:=by kernel_rfl
theorem ah5 (v:V):b3 Tryz.prog 139 2 v=b7 2 v:=by kernel_rfl
theorem ah6 (s:ab) (v:V):b2 Tryz.prog s 139 2 v=b9 2 1 false v:=by kernel_rfl
theorem ah7:Tryz.prog.underlying 140=some (.slice 139):=by kernel_rfl
theorem ah8:az Tryz.prog 140=1:=by kernel_rfl
theorem ah9:isAgg Tryz.prog 140=false:=by kernel_rfl
theorem aia:elemOf Tryz.prog 140=139:=by kernel_rfl
theorem aib:c3 Tryz.prog 140=3:=by kernel_rfl
theorem aic:gY Tryz.prog 140=true:=by kernel_rfl
theorem aid:eB Tryz.prog 140=V.agg [V.int .i64 0,V.slc false 1 [],V.bool false]:=by kernel_rfl
theorem aie:zero Tryz.prog 140=some [V.slc true 3 []]:=by kernel_rfl
theorem aif:az Tryz.prog 141=1:=by kernel_rfl
theorem aih:isAgg Tryz.prog 141=false:=by kernel_rfl
theorem aii:zero Tryz.prog 141=some [V.bK]:=by kernel_rfl
theorem aij:az Tryz.prog 142=1:=by kernel_rfl
theorem aik:isAgg Tryz.prog 142=false:=by kernel_rfl
theorem ail:zero Tryz.prog 142=some [V.bK]:=by kernel_rfl
theorem aim:az Tryz.prog 143=1:=by kernel_rfl
theorem ain:isAgg Tryz.prog 143=false:=by kernel_rfl
theorem aio:zero Tryz.prog 143=some [V.bK]:=by kernel_rfl
theorem aip:az Tryz.prog 144=1:=by kernel_rfl
theorem aiq:isAgg Tryz.prog 144=false:=by kernel_rfl
theorem air:zero Tryz.prog 144=some [V.bK]:=by kernel_rfl
theorem ais:az Tryz.prog 145=1:=by kernel_rfl
theorem ait:isAgg Tryz.prog 145=false:=by kernel_rfl
theorem aiu:zero Tryz.prog 145=some [V.bK]:=by kernel_rfl
theorem aiv:az Tryz.prog 146=4:=by kernel_rfl
theorem aiw:isAgg Tryz.prog 146=true:=by kernel_rfl
theorem KL:zero Tryz.prog 146=some [V.dD,V.dD,V.dD,V.str ⟨#[]⟩]:=by kernel_rfl
theorem aix:gn Tryz.prog 146=some [(17,0,1),(17,1,1),(17,2,1),(9,3,1)]:=by kernel_rfl
theorem aiy (H:Hint) (d:Nat) (ty:TypeId) (ps:Array (Nat×Operand)) (s:ab):bw Tryz.prog H d ty (.build 146 ps) s=fU (fu Tryz.prog [(17,0,1),(17,1,1),(17,2,1),(9,3,1)] s [V.dD,V.dD,V.dD,V.str ⟨#[]⟩] ps.toList):=gK aix KL
theorem aiz (H:Hint) (d:Nat) (ty:TypeId) (ps:Array (Nat×Operand)) (pos:String) (bx:Array Edge) (g:Option (Nat×Bool)):cl Tryz.prog H {dst:=some d,op:=.build 146 ps,type:=ty,pos:=pos,after:=bx,guard:=g}=!aG d H.fa:=by kernel_rfl
theorem aiA (v:V):b3 Tryz.prog 146 0 v=b7 0 v:=by kernel_rfl
theorem aiB (s:ab) (v:V):b2 Tryz.prog s 146 0 v=b9 0 1 false v:=by kernel_rfl
theorem aiC (v:V):b3 Tryz.prog 146 1 v=b7 1 v:=by kernel_rfl
theorem aiD (s:ab) (v:V):b2 Tryz.prog s 146 1 v=b9 1 1 false v:=by kernel_rfl
theorem aiE (v:V):b3 Tryz.prog 146 2 v=b7 2 v:=by kernel_rfl
theorem aiF (s:ab) (v:V):b2 Tryz.prog s 146 2 v=b9 2 1 false v:=by kernel_rfl
theorem aiG (v:V):b3 Tryz.prog 146 3 v=b7 3 v:=by kernel_rfl
theorem aiH (s:ab) (v:V):b2 Tryz.prog s 146 3 v=b9 3 1 false v:=by kernel_rfl
theorem aiI:az Tryz.prog 147=4:=by kernel_rfl
theorem aiJ:isAgg Tryz.prog 147=true:=by kernel_rfl
theorem KM:zero Tryz.prog 147=some [V.dD,V.dD,V.dD,V.str ⟨#[]⟩]:=by kernel_rfl
theorem aiK:gn Tryz.prog 147=some [(17,0,1),(17,1,1),(17,2,1),(9,3,1)]:=by kernel_rfl
theorem aiL (H:Hint) (d:Nat) (ty:TypeId) (ps:Array (Nat×Operand)) (s:ab):bw Tryz.prog H d ty (.build 147 ps) s=fU (fu Tryz.prog [(17,0,1),(17,1,1),(17,2,1),(9,3,1)] s [V.dD,V.dD,V.dD,V.str ⟨#[]⟩] ps.toList):=gK aiK KM
theorem aiM (H:Hint) (d:Nat) (ty:TypeId) (ps:Array (Nat×Operand)) (pos:String) (bx:Array Edge) (g:Option (Nat×Bool)):cl Tryz.prog H {dst:=some d,op:=.build 147 ps,type:=ty,pos:=pos,after:=bx,guard:=g}=!aG d H.fa:=by kernel_rfl
theorem aiN (v:V):b3 Tryz.prog 147 0 v=b7 0 v:=by kernel_rfl
theorem aiO (s:ab) (v:V):b2 Tryz.prog s 147 0 v=b9 0 1 false v:=by kernel_rfl
theorem aiP (v:V):b3 Tryz.prog 147 1 v=b7 1 v:=by kernel_rfl
theorem aiQ (s:ab) (v:V):b2 Tryz.prog s 147 1 v=b9 1 1 false v:=by kernel_rfl
theorem aiR (v:V):b3 Tryz.prog 147 2 v=b7 2 v:=by kernel_rfl
theorem aiS (s:ab) (v:V):b2 Tryz.prog s 147 2 v=b9 2 1 false v:=by kernel_rfl
theorem aiT (v:V):b3 Tryz.prog 147 3 v=b7 3 v:=by kernel_rfl
theorem aiU (s:ab) (v:V):b2 Tryz.prog s 147 3 v=b9 3 1 false v:=by kernel_rfl
theorem aiV (H:Hint) (d:Nat) (ty:TypeId) (ps:Array (Nat×Operand)) (pos:String) (bx:Array Edge) (g:Option (Nat×Bool)):cl Tryz.prog H {dst:=some d,op:=.build 148 ps,type:=ty,pos:=pos,after:=bx,guard:=g}=aG d H.fa:=by kernel_rfl
theorem aiW:Tryz.prog.underlying 148=some (.array 0 16):=by kernel_rfl
theorem aiX:az Tryz.prog 148=0:=by kernel_rfl
theorem aiY:isAgg Tryz.prog 148=true:=by kernel_rfl
theorem aiZ:elemOf Tryz.prog 148=16:=by kernel_rfl
theorem ai0:c3 Tryz.prog 148=1:=by kernel_rfl
theorem ai1:zero Tryz.prog 148=some []:=by kernel_rfl
theorem ai2:az Tryz.prog 149=0:=by kernel_rfl
theorem ai3:isAgg Tryz.prog 149=true:=by kernel_rfl
theorem ai4:zero Tryz.prog 149=some []:=by kernel_rfl
theorem ai5:az Tryz.prog 150=0:=by kernel_rfl
theorem ai6:isAgg Tryz.prog 150=true:=by kernel_rfl
theorem ai7:zero Tryz.prog 150=some []:=by kernel_rfl
theorem ai8:az Tryz.prog 151=1:=by kernel_rfl
theorem ai9:isAgg Tryz.prog 151=false:=by kernel_rfl
theorem aja:zero Tryz.prog 151=some [V.bK]:=by kernel_rfl
theorem ajb:Tryz.prog.underlying 152=some (.int .u32):=by kernel_rfl
theorem ajc:az Tryz.prog 152=1:=by kernel_rfl
theorem ajd:isAgg Tryz.prog 152=false:=by kernel_rfl
theorem aje:zero Tryz.prog 152=some [V.int .u32 0]:=by kernel_rfl
theorem ajf:Tryz.prog.underlying 153=some (.int .u8):=by kernel_rfl
theorem ajg:az Tryz.prog 153=1:=by kernel_rfl
theorem ajh:isAgg Tryz.prog 153=false:=by kernel_rfl
theorem aji:zero Tryz.prog 153=some [V.int .u8 0]:=by kernel_rfl
theorem ajj:Tryz.prog.underlying 154=some (.int .u8):=by kernel_rfl
theorem ajk:az Tryz.prog 154=1:=by kernel_rfl
theorem ajl:isAgg Tryz.prog 154=false:=by kernel_rfl
theorem ajm:zero Tryz.prog 154=some [V.int .u8 0]:=by kernel_rfl
theorem ajn:az Tryz.prog 155=1:=by kernel_rfl
theorem ajo:isAgg Tryz.prog 155=false:=by kernel_rfl
theorem ajp:zero Tryz.prog 155=some [V.bK]:=by kernel_rfl
theorem ajq:Tryz.prog.underlying 156=some (.pointer 5):=by kernel_rfl
theorem ajr:az Tryz.prog 156=1:=by kernel_rfl
theorem ajs:isAgg Tryz.prog 156=false:=by kernel_rfl
theorem ajt:zero Tryz.prog 156=some [V.dD]:=by kernel_rfl
theorem aju:Tryz.prog.underlying 157=some (.int .i32):=by kernel_rfl
theorem ajv:az Tryz.prog 157=1:=by kernel_rfl
theorem ajw:isAgg Tryz.prog 157=false:=by kernel_rfl
theorem ajx:zero Tryz.prog 157=some [V.int .i32 0]:=by kernel_rfl
theorem ajy:Tryz.prog.underlying 158=some (.int .i32):=by kernel_rfl
theorem ajz:az Tryz.prog 158=1:=by kernel_rfl
theorem ajA:isAgg Tryz.prog 158=false:=by kernel_rfl
theorem ajB:zero Tryz.prog 158=some [V.int .i32 0]:=by kernel_rfl
theorem ajC:az Tryz.prog 159=11:=by kernel_rfl
theorem ajD:isAgg Tryz.prog 159=true:=by kernel_rfl
theorem KN:zero Tryz.prog 159=some [V.int .u64 0,V.int .u64 0,V.int .u32 0,V.int .u8 0,V.int .u8 0,V.int .u8 0,V.int .u8 0,V.bK,V.dD,V.int .i32 0,V.int .i32 0]:=by kernel_rfl
theorem ajE:gn Tryz.prog 159=some [(12,0,1),(12,1,1),(152,2,1),(153,3,1),(5,4,1),(5,5,1),(154,6,1),(155,7,1),(156,8,1),(157,9,1),(158,10,1)]:=by kernel_rfl
theorem ajF (H:Hint) (d:Nat) (ty:TypeId) (ps:Array (Nat×Operand)) (s:ab):bw Tryz.prog H d ty (.build 159 ps) s=fU (fu Tryz.prog [(12,0,1),(12,1,1),(152,2,1),(153,3,1),(5,4,1),(5,5,1),(154,6,1),(155,7,1),(156,8,1),(157,9,1),(158,10,1)] s [V.int .u64 0,V.int .u64 0,V.int .u32 0,V.int .u8 0,V.int .u8 0,V.int .u8 0,V.int .u8 0,V.bK,V.dD,V.int .i32 0,V.int .i32 0] ps.toList):=gK ajE KN
theorem ajG (H:Hint) (d:Nat) (ty:TypeId) (ps:Array (Nat×Operand)) (pos:String) (bx:Array Edge) (g:Option (Nat×Bool)):cl Tryz.prog H {dst:=some d,op:=.build 159 ps,type:=ty,pos:=pos,after:=bx,guard:=g}=!aG d H.fa:=by kernel_rfl
theorem ajH (v:V):b3 Tryz.prog 159 0 v=b7 0 v:=by kernel_rfl
theorem ajI (s:ab) (v:V):b2 Tryz.prog s 159 0 v=b9 0 1 false v:=by kernel_rfl
theorem ajJ (v:V):b3 Tryz.prog 159 1 v=b7 1 v:=by kernel_rfl
theorem ajK (s:ab) (v:V):b2 Tryz.prog s 159 1 v=b9 1 1 false v:=by kernel_rfl
theorem ajL (v:V):b3 Tryz.prog 159 2 v=b7 2 v:=by kernel_rfl
theorem ajM (s:ab) (v:V):b2 Tryz.prog s 159 2 v=b9 2 1 false v:=by kernel_rfl
theorem ajN (v:V):b3 Tryz.prog 159 3 v=b7 3 v:=by kernel_rfl
theorem ajO (s:ab) (v:V):b2 Tryz.prog s 159 3 v=b9 3 1 false v:=by kernel_rfl
theorem ajP (v:V):b3 Tryz.prog 159 4 v=b7 4 v:=by kernel_rfl
theorem ajQ (s:ab) (v:V):b2 Tryz.prog s 159 4 v=b9 4 1 false v:=by kernel_rfl
theorem ajR (v:V):b3 Tryz.prog 159 5 v=b7 5 v:=by kernel_rfl
theorem ajS (s:ab) (v:V):b2 Tryz.prog s 159 5 v=b9 5 1 false v:=by kernel_rfl
theorem ajT (v:V):b3 Tryz.prog 159 6 v=b7 6 v:=by kernel_rfl
theorem ajU (s:ab) (v:V):b2 Tryz.prog s 159 6 v=b9 6 1 false v:=by kernel_rfl
theorem ajV (v:V):b3 Tryz.prog 159 7 v=b7 7 v:=by kernel_rfl
theorem ajW (s:ab) (v:V):b2 Tryz.prog s 159 7 v=b9 7 1 false v:=by kernel_rfl
theorem ajX (v:V):b3 Tryz.prog 159 8 v=b7 8 v:=by kernel_rfl
theorem ajY (s:ab) (v:V):b2 Tryz.prog s 159 8 v=b9 8 1 false v:=by kernel_rfl
theorem ajZ (v:V):b3 Tryz.prog 159 9 v=b7 9 v:=by kernel_rfl
theorem aj0 (s:ab) (v:V):b2 Tryz.prog s 159 9 v=b9 9 1 false v:=by kernel_rfl
theorem aj1 (v:V):b3 Tryz.prog 159 10 v=b7 10 v:=by kernel_rfl
theorem aj2 (s:ab) (v:V):b2 Tryz.prog s 159 10 v=b9 10 1 false v:=by kernel_rfl
theorem aj3:az Tryz.prog 160=11:=by kernel_rfl
theorem aj4:isAgg Tryz.prog 160=true:=by kernel_rfl
theorem KO:zero Tryz.prog 160=some [V.int .u64 0,V.int .u64 0,V.int .u32 0,V.int .u8 0,V.int .u8 0,V.int .u8 0,V.int .u8 0,V.bK,V.dD,V.int .i32 0,V.int .i32 0]:=by kernel_rfl
theorem aj5:gn Tryz.prog 160=some [(12,0,1),(12,1,1),(152,2,1),(153,3,1),(5,4,1),(5,5,1),(154,6,1),(155,7,1),(156,8,1),(157,9,1),(158,10,1)]:=by kernel_rfl
theorem aj6 (H:Hint) (d:Nat) (ty:TypeId) (ps:Array (Nat×Operand)) (s:ab):bw Tryz.prog H d ty (.build 160 ps) s=fU (fu Tryz.prog [(12,0,1),(12,1,1),(152,2,1),(153,3,1),(5,4,1),(5,5,1),(154,6,1),(155,7,1),(156,8,1),(157,9,1),(158,10,1)] s [V.int .u64 0,V.int .u64 0,V.int .u32 0,V.int .u8 0,V.int .u8 0,V.int .u8 0,V.int .u8 0,V.bK,V.dD,V.int .i32 0,V.int .i32 0] ps.toList):=gK aj5 KO
theorem aj7 (H:Hint) (d:Nat) (ty:TypeId) (ps:Array (Nat×Operand)) (pos:String) (bx:Array Edge) (g:Option (Nat×Bool)):cl Tryz.prog H {dst:=some d,op:=.build 160 ps,type:=ty,pos:=pos,after:=bx,guard:=g}=!aG d H.fa:=by kernel_rfl
theorem aj8 (v:V):b3 Tryz.prog 160 0 v=b7 0 v:=by kernel_rfl
theorem aj9 (s:ab) (v:V):b2 Tryz.prog s 160 0 v=b9 0 1 false v:=by kernel_rfl
theorem aka (v:V):b3 Tryz.prog 160 1 v=b7 1 v:=by kernel_rfl
theorem akb (s:ab) (v:V):b2 Tryz.prog s 160 1 v=b9 1 1 false v:=by kernel_rfl
theorem akc (v:V):b3 Tryz.prog 160 2 v=b7 2 v:=by kernel_rfl
theorem akd (s:ab) (v:V):b2 Tryz.prog s 160 2 v=b9 2 1 false v:=by kernel_rfl
theorem ake (v:V):b3 Tryz.prog 160 3 v=b7 3 v:=by kernel_rfl
theorem akf (s:ab) (v:V):b2 Tryz.prog s 160 3 v=b9 3 1 false v:=by kernel_rfl
theorem akg (v:V):b3 Tryz.prog 160 4 v=b7 4 v:=by kernel_rfl
theorem akh (s:ab) (v:V):b2 Tryz.prog s 160 4 v=b9 4 1 false v:=by kernel_rfl
theorem aki (v:V):b3 Tryz.prog 160 5 v=b7 5 v:=by kernel_rfl
theorem akj (s:ab) (v:V):b2 Tryz.prog s 160 5 v=b9 5 1 false v:=by kernel_rfl
theorem akk (v:V):b3 Tryz.prog 160 6 v=b7 6 v:=by kernel_rfl
theorem akl (s:ab) (v:V):b2 Tryz.prog s 160 6 v=b9 6 1 false v:=by kernel_rfl
theorem akm (v:V):b3 Tryz.prog 160 7 v=b7 7 v:=by kernel_rfl
theorem akn (s:ab) (v:V):b2 Tryz.prog s 160 7 v=b9 7 1 false v:=by kernel_rfl
theorem ako (v:V):b3 Tryz.prog 160 8 v=b7 8 v:=by kernel_rfl
theorem akp (s:ab) (v:V):b2 Tryz.prog s 160 8 v=b9 8 1 false v:=by kernel_rfl
theorem akq (v:V):b3 Tryz.prog 160 9 v=b7 9 v:=by kernel_rfl
theorem akr (s:ab) (v:V):b2 Tryz.prog s 160 9 v=b9 9 1 false v:=by kernel_rfl
theorem aks (v:V):b3 Tryz.prog 160 10 v=b7 10 v:=by kernel_rfl
theorem akt (s:ab) (v:V):b2 Tryz.prog s 160 10 v=b9 10 1 false v:=by kernel_rfl
theorem EA (x y:Int):ea Tryz.prog 3 (.int .i64 x) (.int .i64 y)=some (x==y):=by kernel_rfl
theorem KP (fW ly dK gl:Int):ea Tryz.prog 88 (.agg [V.int .i64 fW,V.int .i64 dK]) (.agg [V.int .i64 ly,V.int .i64 gl])=some ((fW==ly)&&((dK==gl)&&true)):=by kernel_rfl
theorem KQ (fW ly dK gl kc iy sw n7:Int):ea Tryz.prog 108 (.agg [V.int .i64 fW,V.int .i64 dK,V.int .i64 kc,V.int .i64 sw]) (.agg [V.int .i64 ly,V.int .i64 gl,V.int .i64 iy,V.int .i64 n7])=some ((fW==ly)&&((dK==gl)&&((kc==iy)&&((sw==n7)&&true)))):=by kernel_rfl
theorem aku:(Tryz.prog.bytesOf 3)=8:=by kernel_rfl
theorem akv:(Tryz.prog.bytesOf 4)=1:=by kernel_rfl
theorem akw:(Tryz.prog.bytesOf 5)=1:=by kernel_rfl
theorem akx:(Tryz.prog.bytesOf 9)=16:=by kernel_rfl
theorem aky:(Tryz.prog.bytesOf 31)=48:=by kernel_rfl
theorem akz:(Tryz.prog.bytesOf 54)=48:=by kernel_rfl
theorem akA:(Tryz.prog.bytesOf 56)=120:=by kernel_rfl
theorem akB:(Tryz.prog.bytesOf 62)=24:=by kernel_rfl
theorem akC:(Tryz.prog.bytesOf 88)=16:=by kernel_rfl
theorem akD:(Tryz.prog.bytesOf 123)=16:=by kernel_rfl
theorem akE:(Tryz.prog.bytesOf 139)=40:=by kernel_rfl
attribute [go_sem] Cv X2 X3 w1 X4 X5 X6 w2 X7 X8 X9 uJ Ya Yb Yc Yd Cq Ye Ez Yf Cr Yg Yh Yi Yj Yk Ko Yo Yp Yq Yr Ys Yt Yu Yv Yw Yx Kp YB YC YD YE YF YG YH YI YJ YK YL YM YN YO YP YQ YR YS YT YU YV YW YX YY YZ Y0 Kq Y4 Y5 Y6 Y7 Y8 Y9 Kr Zd Ze Zf Zg Zh Zi Zj Zk u16 Zl Zm Zn Zo Zp Zq Zr Zs Zt Ks Zx Zy Zz ZA Kt ZE ZF ZG ZH ZI ZJ ZK ZL ZM ZN ZO ZP ZQ ZR ZS ZT ZU ZV ZW ZX ZY ZZ Z0 Z1 Z2 Z3 Z4 Ku Z8 Z9 aaa aab Kv aaf aag aah aai aaj aak aal aam aan aao aap aaq aar aas aat aau aav aaw aax aay aaz aaA aaB Kw aaF aaG aaH aaI aaJ aaK Kx aaO aaP aaQ aaR aaS aaT aaU aaV aaW aaX aaY aaZ aa0 aa1 aa2 aa3 aa4 aa5 aa6 aa7 aa8 aa9 aba abb abc abd abe abf abg abh abi abj abk abl abm abn abo abp abq abr abt abu abv abw abx aby abz abA abB abC abD abE abF abG Ky abK abL abM abN abO abP abQ abR Kz abV abW abX abY abZ ab0 ab1 ab2 ab3 ab4 ab5 ab6 ab7 ab8 ab9 aca acb acd KA ach aci acj ack acm acn aco acp KB acu acv acw acx acy acz acA acB KC acF acG acH acI acJ acK acL acM acN acO KD acS acT acU acV acW acX acY acZ ac0 ac1 ac2 ac3 ac4 ac5 ac6 ac7 ac8 ac9 ada adb ade adf adg adh adi adj adk adl adm adn ado adp adq adr ads adt adu adv adw adx ady adz adA adB adC adD adE adF adG adH adI adJ adK adL adM adN adO adP adQ adR adS adT adU adV adW adX adY adZ ad0 ad1 ad2 ad3 ad4 ad5 ad6 KE aea aeb aec aed aee aef aeg aeh KF ael aem aen aeo aep aeq aer aes aet aeu aev aew aex aey aez aeA aeB aeC aeD aeE aeF aeG aeH aeI aeJ aeK aeL aeM aeN aeP aeQ aeR aeS aeT aeU aeV aeW aeX aeY aeZ ae0 ae1 ae2 ae3 ae4 ae5 ae6 ae7 ae8 ae9 afa afb afc afd afe aff afg afh afi afj afk afl afm afn afo afp afq afr afs aft afu afv afw afx afy afz afA afB afC afD afE afF afG afH afI afJ afK afL afM afN afO afP afR afS afT afU afV afW afX afY afZ af0 af1 af2 af3 af4 af5 af6 af7 af8 af9 aga agb agc agd age agf agh agi agj agk agl agm agn ago agp agq agr ags agt agu agv agw agx agy agz agA agB agC agD agE agF agG agH agI agJ KG agN agO agP agQ agR agS agT agU KH agY agZ ag0 ag1 KI ag2 ag3 ag4 ag5 ag6 ag7 ag8 ag9 aha ahb ahc ahd ahe ahf ahg ahh ahi ahj ahk ahl ahm ahn aho ahp ahq ahr ahs aht ahu ahv ahw ahx ahy ahz ahA ahB ahC ahD ahE ahF ahG ahH ahI ahJ ahK ahL ahM KJ ahQ ahR ahS ahT ahU ahV ahW ahX KK ah1 ah2 ah3 ah4 ah5 ah6 ah7 ah8 ah9 aia aib aic aid aie aif aih aii aij aik ail aim ain aio aip aiq air ais ait aiu aiv aiw KL aiA aiB aiC aiD aiE aiF aiG aiH aiI aiJ KM aiN aiO aiP aiQ aiR aiS aiT aiU aiW aiX aiY aiZ ai0 ai1 ai2 ai3 ai4 ai5 ai6 ai7 ai8 ai9 aja ajb ajc ajd aje ajf ajg ajh aji ajj ajk ajl ajm ajn ajo ajp ajq ajr ajs ajt aju ajv ajw ajx ajy ajz ajA ajB ajC ajD KN ajH ajI ajJ ajK ajL ajM ajN ajO ajP ajQ ajR ajS ajT ajU ajV ajW ajX ajY ajZ aj0 aj1 aj2 aj3 aj4 KO aj8 aj9 aka akb akc akd ake akf akg akh aki akj akk akl akm akn ako akp akq akr aks akt EA KP KQ aku akv akw akx aky akz akA akB akC akD akE
attribute [go_sem high] Ym Yn Yz YA Y2 Y3 Zb Zc Zv Zw ZC ZD Z6 Z7 aad aae aaD aaE aaM aaN abI abJ abT abU acf acg acr acs acD acE acQ acR ad8 ad9 aej aek aeO afQ agL agM agW agX ahO ahP ahZ ah0 aiy aiz aiL aiM aiV ajF ajG aj6 aj7
end Go.aB
