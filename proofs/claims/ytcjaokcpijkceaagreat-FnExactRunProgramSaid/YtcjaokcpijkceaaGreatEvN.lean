/- Facts on the seat's types, printed by a program. -/
import Derived.Test.YtcjaokcpijkceaaGreatProg
import Derived.Test.YtcjaokcpijkceaaGreatEvJ
set_option linter.unusedVariables false
set_option linter.unusedSimpArgs false
namespace Go.Ev
open Go Go.Proofs
set_option maxRecDepth 10000
theorem sz1 : szOf Tryz.prog 1 = 1 := by kernel_rfl
theorem ag1 : isAgg Tryz.prog 1 = false := by kernel_rfl
theorem ze1 : zero Tryz.prog 1 = some [V.nilfn] := by kernel_rfl
theorem u2 : Tryz.prog.underlying 2 = some (.int .i64) := by kernel_rfl
theorem sz2 : szOf Tryz.prog 2 = 1 := by kernel_rfl
theorem ag2 : isAgg Tryz.prog 2 = false := by kernel_rfl
theorem ze2 : zero Tryz.prog 2 = some [V.int .i64 0] := by kernel_rfl
theorem u3 : Tryz.prog.underlying 3 = some (.int .i64) := by kernel_rfl
theorem sz3 : szOf Tryz.prog 3 = 1 := by kernel_rfl
theorem ag3 : isAgg Tryz.prog 3 = false := by kernel_rfl
theorem ze3 : zero Tryz.prog 3 = some [V.int .i64 0] := by kernel_rfl
theorem u4 : Tryz.prog.underlying 4 = some .bool := by kernel_rfl
theorem sz4 : szOf Tryz.prog 4 = 1 := by kernel_rfl
theorem ag4 : isAgg Tryz.prog 4 = false := by kernel_rfl
theorem ze4 : zero Tryz.prog 4 = some [V.bool false] := by kernel_rfl
theorem ev4 (x y : Bool) : eqV Tryz.prog 4 (.bool x) (.bool y) = some (x == y) := by kernel_rfl
theorem u5 : Tryz.prog.underlying 5 = some (.int .u8) := by kernel_rfl
theorem sz5 : szOf Tryz.prog 5 = 1 := by kernel_rfl
theorem ag5 : isAgg Tryz.prog 5 = false := by kernel_rfl
theorem ze5 : zero Tryz.prog 5 = some [V.int .u8 0] := by kernel_rfl
theorem u6 : Tryz.prog.underlying 6 = some (.int .u8) := by kernel_rfl
theorem sz6 : szOf Tryz.prog 6 = 1 := by kernel_rfl
theorem ag6 : isAgg Tryz.prog 6 = false := by kernel_rfl
theorem ze6 : zero Tryz.prog 6 = some [V.int .u8 0] := by kernel_rfl
theorem sz7 : szOf Tryz.prog 7 = 4 := by kernel_rfl
theorem ag7 : isAgg Tryz.prog 7 = true := by kernel_rfl
theorem ze7 : zero Tryz.prog 7 = some [V.int .i64 0, V.int .i64 0, V.bool false, V.int .u8 0] := by kernel_rfl
theorem la7 : layOf Tryz.prog 7 = some [(2, 0, 1), (3, 1, 1), (4, 2, 1), (6, 3, 1)] := by kernel_rfl
theorem bd7 (H : Hint) (d : Nat) (ty : TypeId) (ps : Array (Nat × Operand)) (s : St) : evV Tryz.prog H d ty (.build 7 ps) s = aggO (buildL Tryz.prog [(2, 0, 1), (3, 1, 1), (4, 2, 1), (6, 3, 1)] s [V.int .i64 0, V.int .i64 0, V.bool false, V.int .u8 0] ps.toList) := build_lay la7 ze7
theorem xb7 (H : Hint) (d : Nat) (ty : TypeId) (ps : Array (Nat × Operand)) (pos : String) (aft : Array Edge) (g : Option (Nat × Bool)) : isX Tryz.prog H { dst := some d, op := .build 7 ps, type := ty, pos := pos, after := aft, guard := g } = !memN d H.arrs := by kernel_rfl
theorem fa7_0 (v : V) : vFieldAddr Tryz.prog 7 0 v = faddr 0 v := by kernel_rfl
theorem fg7_0 (s : St) (v : V) : vField Tryz.prog s 7 0 v = fget 0 1 false v := by kernel_rfl
theorem fa7_1 (v : V) : vFieldAddr Tryz.prog 7 1 v = faddr 1 v := by kernel_rfl
theorem fg7_1 (s : St) (v : V) : vField Tryz.prog s 7 1 v = fget 1 1 false v := by kernel_rfl
theorem fa7_2 (v : V) : vFieldAddr Tryz.prog 7 2 v = faddr 2 v := by kernel_rfl
theorem fg7_2 (s : St) (v : V) : vField Tryz.prog s 7 2 v = fget 2 1 false v := by kernel_rfl
theorem fa7_3 (v : V) : vFieldAddr Tryz.prog 7 3 v = faddr 3 v := by kernel_rfl
theorem fg7_3 (s : St) (v : V) : vField Tryz.prog s 7 3 v = fget 3 1 false v := by kernel_rfl
theorem sz8 : szOf Tryz.prog 8 = 4 := by kernel_rfl
theorem ag8 : isAgg Tryz.prog 8 = true := by kernel_rfl
theorem ze8 : zero Tryz.prog 8 = some [V.int .i64 0, V.int .i64 0, V.bool false, V.int .u8 0] := by kernel_rfl
theorem la8 : layOf Tryz.prog 8 = some [(2, 0, 1), (3, 1, 1), (4, 2, 1), (6, 3, 1)] := by kernel_rfl
theorem bd8 (H : Hint) (d : Nat) (ty : TypeId) (ps : Array (Nat × Operand)) (s : St) : evV Tryz.prog H d ty (.build 8 ps) s = aggO (buildL Tryz.prog [(2, 0, 1), (3, 1, 1), (4, 2, 1), (6, 3, 1)] s [V.int .i64 0, V.int .i64 0, V.bool false, V.int .u8 0] ps.toList) := build_lay la8 ze8
theorem xb8 (H : Hint) (d : Nat) (ty : TypeId) (ps : Array (Nat × Operand)) (pos : String) (aft : Array Edge) (g : Option (Nat × Bool)) : isX Tryz.prog H { dst := some d, op := .build 8 ps, type := ty, pos := pos, after := aft, guard := g } = !memN d H.arrs := by kernel_rfl
theorem fa8_0 (v : V) : vFieldAddr Tryz.prog 8 0 v = faddr 0 v := by kernel_rfl
theorem fg8_0 (s : St) (v : V) : vField Tryz.prog s 8 0 v = fget 0 1 false v := by kernel_rfl
theorem fa8_1 (v : V) : vFieldAddr Tryz.prog 8 1 v = faddr 1 v := by kernel_rfl
theorem fg8_1 (s : St) (v : V) : vField Tryz.prog s 8 1 v = fget 1 1 false v := by kernel_rfl
theorem fa8_2 (v : V) : vFieldAddr Tryz.prog 8 2 v = faddr 2 v := by kernel_rfl
theorem fg8_2 (s : St) (v : V) : vField Tryz.prog s 8 2 v = fget 2 1 false v := by kernel_rfl
theorem fa8_3 (v : V) : vFieldAddr Tryz.prog 8 3 v = faddr 3 v := by kernel_rfl
theorem fg8_3 (s : St) (v : V) : vField Tryz.prog s 8 3 v = fget 3 1 false v := by kernel_rfl
theorem u9 : Tryz.prog.underlying 9 = some .string := by kernel_rfl
theorem sz9 : szOf Tryz.prog 9 = 1 := by kernel_rfl
theorem ag9 : isAgg Tryz.prog 9 = false := by kernel_rfl
theorem ze9 : zero Tryz.prog 9 = some [V.str ⟨#[]⟩] := by kernel_rfl
theorem u10 : Tryz.prog.underlying 10 = some .string := by kernel_rfl
theorem sz10 : szOf Tryz.prog 10 = 1 := by kernel_rfl
theorem ag10 : isAgg Tryz.prog 10 = false := by kernel_rfl
theorem ze10 : zero Tryz.prog 10 = some [V.str ⟨#[]⟩] := by kernel_rfl
theorem u11 : Tryz.prog.underlying 11 = some .string := by kernel_rfl
theorem sz11 : szOf Tryz.prog 11 = 1 := by kernel_rfl
theorem ag11 : isAgg Tryz.prog 11 = false := by kernel_rfl
theorem ze11 : zero Tryz.prog 11 = some [V.str ⟨#[]⟩] := by kernel_rfl
theorem u12 : Tryz.prog.underlying 12 = some (.int .u64) := by kernel_rfl
theorem sz12 : szOf Tryz.prog 12 = 1 := by kernel_rfl
theorem ag12 : isAgg Tryz.prog 12 = false := by kernel_rfl
theorem ze12 : zero Tryz.prog 12 = some [V.int .u64 0] := by kernel_rfl
theorem sz13 : szOf Tryz.prog 13 = 2 := by kernel_rfl
theorem ag13 : isAgg Tryz.prog 13 = true := by kernel_rfl
theorem ze13 : zero Tryz.prog 13 = some [V.str ⟨#[]⟩, V.int .u64 0] := by kernel_rfl
theorem la13 : layOf Tryz.prog 13 = some [(9, 0, 1), (12, 1, 1)] := by kernel_rfl
theorem bd13 (H : Hint) (d : Nat) (ty : TypeId) (ps : Array (Nat × Operand)) (s : St) : evV Tryz.prog H d ty (.build 13 ps) s = aggO (buildL Tryz.prog [(9, 0, 1), (12, 1, 1)] s [V.str ⟨#[]⟩, V.int .u64 0] ps.toList) := build_lay la13 ze13
theorem xb13 (H : Hint) (d : Nat) (ty : TypeId) (ps : Array (Nat × Operand)) (pos : String) (aft : Array Edge) (g : Option (Nat × Bool)) : isX Tryz.prog H { dst := some d, op := .build 13 ps, type := ty, pos := pos, after := aft, guard := g } = !memN d H.arrs := by kernel_rfl
theorem fa13_0 (v : V) : vFieldAddr Tryz.prog 13 0 v = faddr 0 v := by kernel_rfl
theorem fg13_0 (s : St) (v : V) : vField Tryz.prog s 13 0 v = fget 0 1 false v := by kernel_rfl
theorem fa13_1 (v : V) : vFieldAddr Tryz.prog 13 1 v = faddr 1 v := by kernel_rfl
theorem fg13_1 (s : St) (v : V) : vField Tryz.prog s 13 1 v = fget 1 1 false v := by kernel_rfl
theorem sz14 : szOf Tryz.prog 14 = 2 := by kernel_rfl
theorem ag14 : isAgg Tryz.prog 14 = true := by kernel_rfl
theorem ze14 : zero Tryz.prog 14 = some [V.str ⟨#[]⟩, V.int .u64 0] := by kernel_rfl
theorem la14 : layOf Tryz.prog 14 = some [(9, 0, 1), (12, 1, 1)] := by kernel_rfl
theorem bd14 (H : Hint) (d : Nat) (ty : TypeId) (ps : Array (Nat × Operand)) (s : St) : evV Tryz.prog H d ty (.build 14 ps) s = aggO (buildL Tryz.prog [(9, 0, 1), (12, 1, 1)] s [V.str ⟨#[]⟩, V.int .u64 0] ps.toList) := build_lay la14 ze14
theorem xb14 (H : Hint) (d : Nat) (ty : TypeId) (ps : Array (Nat × Operand)) (pos : String) (aft : Array Edge) (g : Option (Nat × Bool)) : isX Tryz.prog H { dst := some d, op := .build 14 ps, type := ty, pos := pos, after := aft, guard := g } = !memN d H.arrs := by kernel_rfl
theorem fa14_0 (v : V) : vFieldAddr Tryz.prog 14 0 v = faddr 0 v := by kernel_rfl
theorem fg14_0 (s : St) (v : V) : vField Tryz.prog s 14 0 v = fget 0 1 false v := by kernel_rfl
theorem fa14_1 (v : V) : vFieldAddr Tryz.prog 14 1 v = faddr 1 v := by kernel_rfl
theorem fg14_1 (s : St) (v : V) : vField Tryz.prog s 14 1 v = fget 1 1 false v := by kernel_rfl
theorem u15 : Tryz.prog.underlying 15 = some (.pointer 317) := by kernel_rfl
theorem sz15 : szOf Tryz.prog 15 = 1 := by kernel_rfl
theorem ag15 : isAgg Tryz.prog 15 = false := by kernel_rfl
theorem ze15 : zero Tryz.prog 15 = some [V.nilp] := by kernel_rfl
theorem u16 : Tryz.prog.underlying 16 = some (.pointer 320) := by kernel_rfl
theorem sz16 : szOf Tryz.prog 16 = 1 := by kernel_rfl
theorem ag16 : isAgg Tryz.prog 16 = false := by kernel_rfl
theorem ze16 : zero Tryz.prog 16 = some [V.nilp] := by kernel_rfl
theorem u17 : Tryz.prog.underlying 17 = some (.pointer 329) := by kernel_rfl
theorem sz17 : szOf Tryz.prog 17 = 1 := by kernel_rfl
theorem ag17 : isAgg Tryz.prog 17 = false := by kernel_rfl
theorem ze17 : zero Tryz.prog 17 = some [V.nilp] := by kernel_rfl
theorem sz18 : szOf Tryz.prog 18 = 1 := by kernel_rfl
theorem ag18 : isAgg Tryz.prog 18 = true := by kernel_rfl
theorem ze18 : zero Tryz.prog 18 = some [V.nilp] := by kernel_rfl
theorem la18 : layOf Tryz.prog 18 = some [(17, 0, 1)] := by kernel_rfl
theorem bd18 (H : Hint) (d : Nat) (ty : TypeId) (ps : Array (Nat × Operand)) (s : St) : evV Tryz.prog H d ty (.build 18 ps) s = aggO (buildL Tryz.prog [(17, 0, 1)] s [V.nilp] ps.toList) := build_lay la18 ze18
theorem xb18 (H : Hint) (d : Nat) (ty : TypeId) (ps : Array (Nat × Operand)) (pos : String) (aft : Array Edge) (g : Option (Nat × Bool)) : isX Tryz.prog H { dst := some d, op := .build 18 ps, type := ty, pos := pos, after := aft, guard := g } = !memN d H.arrs := by kernel_rfl
theorem fa18_0 (v : V) : vFieldAddr Tryz.prog 18 0 v = faddr 0 v := by kernel_rfl
theorem fg18_0 (s : St) (v : V) : vField Tryz.prog s 18 0 v = fget 0 1 false v := by kernel_rfl
theorem sz19 : szOf Tryz.prog 19 = 1 := by kernel_rfl
theorem ag19 : isAgg Tryz.prog 19 = true := by kernel_rfl
theorem ze19 : zero Tryz.prog 19 = some [V.nilp] := by kernel_rfl
theorem la19 : layOf Tryz.prog 19 = some [(17, 0, 1)] := by kernel_rfl
theorem bd19 (H : Hint) (d : Nat) (ty : TypeId) (ps : Array (Nat × Operand)) (s : St) : evV Tryz.prog H d ty (.build 19 ps) s = aggO (buildL Tryz.prog [(17, 0, 1)] s [V.nilp] ps.toList) := build_lay la19 ze19
theorem xb19 (H : Hint) (d : Nat) (ty : TypeId) (ps : Array (Nat × Operand)) (pos : String) (aft : Array Edge) (g : Option (Nat × Bool)) : isX Tryz.prog H { dst := some d, op := .build 19 ps, type := ty, pos := pos, after := aft, guard := g } = !memN d H.arrs := by kernel_rfl
theorem fa19_0 (v : V) : vFieldAddr Tryz.prog 19 0 v = faddr 0 v := by kernel_rfl
theorem fg19_0 (s : St) (v : V) : vField Tryz.prog s 19 0 v = fget 0 1 false v := by kernel_rfl
theorem u21 : Tryz.prog.underlying 21 = some (.int .i32) := by kernel_rfl
theorem sz21 : szOf Tryz.prog 21 = 1 := by kernel_rfl
theorem ag21 : isAgg Tryz.prog 21 = false := by kernel_rfl
theorem ze21 : zero Tryz.prog 21 = some [V.int .i32 0] := by kernel_rfl
theorem u22 : Tryz.prog.underlying 22 = some (.slice 161) := by kernel_rfl
theorem sz22 : szOf Tryz.prog 22 = 1 := by kernel_rfl
theorem ag22 : isAgg Tryz.prog 22 = false := by kernel_rfl
theorem eo22 : elemOf Tryz.prog 22 = 161 := by kernel_rfl
theorem es22 : elemSz Tryz.prog 22 = 8 := by kernel_rfl
theorem gr22 : growB Tryz.prog 22 = true := by kernel_rfl
theorem df22 : dflt Tryz.prog 22 = V.agg [V.int .i64 0, V.str ⟨#[]⟩, V.str ⟨#[]⟩, V.str ⟨#[]⟩, V.str ⟨#[]⟩, V.int .i64 0, V.str ⟨#[]⟩, V.slc false 3 []] := by kernel_rfl
theorem ze22 : zero Tryz.prog 22 = some [V.slc true 8 []] := by kernel_rfl
theorem sz23 : szOf Tryz.prog 23 = 1 := by kernel_rfl
theorem ag23 : isAgg Tryz.prog 23 = true := by kernel_rfl
theorem ze23 : zero Tryz.prog 23 = some [V.slc true 8 []] := by kernel_rfl
theorem la23 : layOf Tryz.prog 23 = some [(22, 0, 1)] := by kernel_rfl
theorem bd23 (H : Hint) (d : Nat) (ty : TypeId) (ps : Array (Nat × Operand)) (s : St) : evV Tryz.prog H d ty (.build 23 ps) s = aggO (buildL Tryz.prog [(22, 0, 1)] s [V.slc true 8 []] ps.toList) := build_lay la23 ze23
theorem xb23 (H : Hint) (d : Nat) (ty : TypeId) (ps : Array (Nat × Operand)) (pos : String) (aft : Array Edge) (g : Option (Nat × Bool)) : isX Tryz.prog H { dst := some d, op := .build 23 ps, type := ty, pos := pos, after := aft, guard := g } = !memN d H.arrs := by kernel_rfl
theorem fa23_0 (v : V) : vFieldAddr Tryz.prog 23 0 v = faddr 0 v := by kernel_rfl
theorem fg23_0 (s : St) (v : V) : vField Tryz.prog s 23 0 v = fget 0 1 false v := by kernel_rfl
theorem sz24 : szOf Tryz.prog 24 = 1 := by kernel_rfl
theorem ag24 : isAgg Tryz.prog 24 = true := by kernel_rfl
theorem ze24 : zero Tryz.prog 24 = some [V.slc true 8 []] := by kernel_rfl
theorem la24 : layOf Tryz.prog 24 = some [(22, 0, 1)] := by kernel_rfl
theorem bd24 (H : Hint) (d : Nat) (ty : TypeId) (ps : Array (Nat × Operand)) (s : St) : evV Tryz.prog H d ty (.build 24 ps) s = aggO (buildL Tryz.prog [(22, 0, 1)] s [V.slc true 8 []] ps.toList) := build_lay la24 ze24
theorem xb24 (H : Hint) (d : Nat) (ty : TypeId) (ps : Array (Nat × Operand)) (pos : String) (aft : Array Edge) (g : Option (Nat × Bool)) : isX Tryz.prog H { dst := some d, op := .build 24 ps, type := ty, pos := pos, after := aft, guard := g } = !memN d H.arrs := by kernel_rfl
theorem fa24_0 (v : V) : vFieldAddr Tryz.prog 24 0 v = faddr 0 v := by kernel_rfl
theorem fg24_0 (s : St) (v : V) : vField Tryz.prog s 24 0 v = fget 0 1 false v := by kernel_rfl
theorem sz25 : szOf Tryz.prog 25 = 1 := by kernel_rfl
theorem ag25 : isAgg Tryz.prog 25 = false := by kernel_rfl
theorem ze25 : zero Tryz.prog 25 = some [V.nilfn] := by kernel_rfl
theorem sz27 : szOf Tryz.prog 27 = 1 := by kernel_rfl
theorem ag27 : isAgg Tryz.prog 27 = false := by kernel_rfl
theorem ze27 : zero Tryz.prog 27 = some [V.nilfn] := by kernel_rfl
theorem u28 : Tryz.prog.underlying 28 = some (.slice 91) := by kernel_rfl
theorem sz28 : szOf Tryz.prog 28 = 1 := by kernel_rfl
theorem ag28 : isAgg Tryz.prog 28 = false := by kernel_rfl
theorem eo28 : elemOf Tryz.prog 28 = 91 := by kernel_rfl
theorem es28 : elemSz Tryz.prog 28 = 8 := by kernel_rfl
theorem gr28 : growB Tryz.prog 28 = true := by kernel_rfl
theorem df28 : dflt Tryz.prog 28 = V.agg [V.int .i64 0, V.str ⟨#[]⟩, V.str ⟨#[]⟩, V.str ⟨#[]⟩, V.str ⟨#[]⟩, V.int .i64 0, V.str ⟨#[]⟩, V.slc false 3 []] := by kernel_rfl
theorem ze28 : zero Tryz.prog 28 = some [V.slc true 8 []] := by kernel_rfl
theorem sz29 : szOf Tryz.prog 29 = 1 := by kernel_rfl
theorem ag29 : isAgg Tryz.prog 29 = true := by kernel_rfl
theorem ze29 : zero Tryz.prog 29 = some [V.slc true 8 []] := by kernel_rfl
theorem la29 : layOf Tryz.prog 29 = some [(28, 0, 1)] := by kernel_rfl
theorem bd29 (H : Hint) (d : Nat) (ty : TypeId) (ps : Array (Nat × Operand)) (s : St) : evV Tryz.prog H d ty (.build 29 ps) s = aggO (buildL Tryz.prog [(28, 0, 1)] s [V.slc true 8 []] ps.toList) := build_lay la29 ze29
theorem xb29 (H : Hint) (d : Nat) (ty : TypeId) (ps : Array (Nat × Operand)) (pos : String) (aft : Array Edge) (g : Option (Nat × Bool)) : isX Tryz.prog H { dst := some d, op := .build 29 ps, type := ty, pos := pos, after := aft, guard := g } = !memN d H.arrs := by kernel_rfl
theorem fa29_0 (v : V) : vFieldAddr Tryz.prog 29 0 v = faddr 0 v := by kernel_rfl
theorem fg29_0 (s : St) (v : V) : vField Tryz.prog s 29 0 v = fget 0 1 false v := by kernel_rfl
theorem sz30 : szOf Tryz.prog 30 = 1 := by kernel_rfl
theorem ag30 : isAgg Tryz.prog 30 = true := by kernel_rfl
theorem ze30 : zero Tryz.prog 30 = some [V.slc true 8 []] := by kernel_rfl
theorem la30 : layOf Tryz.prog 30 = some [(28, 0, 1)] := by kernel_rfl
theorem bd30 (H : Hint) (d : Nat) (ty : TypeId) (ps : Array (Nat × Operand)) (s : St) : evV Tryz.prog H d ty (.build 30 ps) s = aggO (buildL Tryz.prog [(28, 0, 1)] s [V.slc true 8 []] ps.toList) := build_lay la30 ze30
theorem xb30 (H : Hint) (d : Nat) (ty : TypeId) (ps : Array (Nat × Operand)) (pos : String) (aft : Array Edge) (g : Option (Nat × Bool)) : isX Tryz.prog H { dst := some d, op := .build 30 ps, type := ty, pos := pos, after := aft, guard := g } = !memN d H.arrs := by kernel_rfl
theorem fa30_0 (v : V) : vFieldAddr Tryz.prog 30 0 v = faddr 0 v := by kernel_rfl
theorem fg30_0 (s : St) (v : V) : vField Tryz.prog s 30 0 v = fget 0 1 false v := by kernel_rfl
theorem sz31 : szOf Tryz.prog 31 = 1 := by kernel_rfl
theorem ag31 : isAgg Tryz.prog 31 = false := by kernel_rfl
theorem ze31 : zero Tryz.prog 31 = some [V.nilfn] := by kernel_rfl
theorem sz32 : szOf Tryz.prog 32 = 1 := by kernel_rfl
theorem ag32 : isAgg Tryz.prog 32 = false := by kernel_rfl
theorem ze32 : zero Tryz.prog 32 = some [V.nilfn] := by kernel_rfl
theorem sz33 : szOf Tryz.prog 33 = 1 := by kernel_rfl
theorem ag33 : isAgg Tryz.prog 33 = false := by kernel_rfl
theorem ze33 : zero Tryz.prog 33 = some [V.nilfn] := by kernel_rfl
theorem sz34 : szOf Tryz.prog 34 = 1 := by kernel_rfl
theorem ag34 : isAgg Tryz.prog 34 = false := by kernel_rfl
theorem ze34 : zero Tryz.prog 34 = some [V.nilfn] := by kernel_rfl
theorem sz35 : szOf Tryz.prog 35 = 1 := by kernel_rfl
theorem ag35 : isAgg Tryz.prog 35 = false := by kernel_rfl
theorem ze35 : zero Tryz.prog 35 = some [V.nilfn] := by kernel_rfl
theorem u36 : Tryz.prog.underlying 36 = some (.slice 4) := by kernel_rfl
theorem sz36 : szOf Tryz.prog 36 = 1 := by kernel_rfl
theorem ag36 : isAgg Tryz.prog 36 = false := by kernel_rfl
theorem eo36 : elemOf Tryz.prog 36 = 4 := by kernel_rfl
theorem es36 : elemSz Tryz.prog 36 = 1 := by kernel_rfl
theorem gr36 : growB Tryz.prog 36 = true := by kernel_rfl
theorem df36 : dflt Tryz.prog 36 = V.bool false := by kernel_rfl
theorem ze36 : zero Tryz.prog 36 = some [V.slc true 1 []] := by kernel_rfl
theorem u37 : Tryz.prog.underlying 37 = some (.slice 49) := by kernel_rfl
theorem sz37 : szOf Tryz.prog 37 = 1 := by kernel_rfl
theorem ag37 : isAgg Tryz.prog 37 = false := by kernel_rfl
theorem eo37 : elemOf Tryz.prog 37 = 49 := by kernel_rfl
theorem es37 : elemSz Tryz.prog 37 = 1 := by kernel_rfl
theorem gr37 : growB Tryz.prog 37 = true := by kernel_rfl
theorem df37 : dflt Tryz.prog 37 = V.slc false 1 [] := by kernel_rfl
theorem ze37 : zero Tryz.prog 37 = some [V.slc true 1 []] := by kernel_rfl
theorem sz38 : szOf Tryz.prog 38 = 2 := by kernel_rfl
theorem ag38 : isAgg Tryz.prog 38 = true := by kernel_rfl
theorem ze38 : zero Tryz.prog 38 = some [V.slc true 1 [], V.slc true 1 []] := by kernel_rfl
theorem la38 : layOf Tryz.prog 38 = some [(36, 0, 1), (37, 1, 1)] := by kernel_rfl
theorem bd38 (H : Hint) (d : Nat) (ty : TypeId) (ps : Array (Nat × Operand)) (s : St) : evV Tryz.prog H d ty (.build 38 ps) s = aggO (buildL Tryz.prog [(36, 0, 1), (37, 1, 1)] s [V.slc true 1 [], V.slc true 1 []] ps.toList) := build_lay la38 ze38
theorem xb38 (H : Hint) (d : Nat) (ty : TypeId) (ps : Array (Nat × Operand)) (pos : String) (aft : Array Edge) (g : Option (Nat × Bool)) : isX Tryz.prog H { dst := some d, op := .build 38 ps, type := ty, pos := pos, after := aft, guard := g } = !memN d H.arrs := by kernel_rfl
theorem fa38_0 (v : V) : vFieldAddr Tryz.prog 38 0 v = faddr 0 v := by kernel_rfl
theorem fg38_0 (s : St) (v : V) : vField Tryz.prog s 38 0 v = fget 0 1 false v := by kernel_rfl
theorem fa38_1 (v : V) : vFieldAddr Tryz.prog 38 1 v = faddr 1 v := by kernel_rfl
theorem fg38_1 (s : St) (v : V) : vField Tryz.prog s 38 1 v = fget 1 1 false v := by kernel_rfl
theorem sz39 : szOf Tryz.prog 39 = 2 := by kernel_rfl
theorem ag39 : isAgg Tryz.prog 39 = true := by kernel_rfl
theorem ze39 : zero Tryz.prog 39 = some [V.slc true 1 [], V.slc true 1 []] := by kernel_rfl
theorem la39 : layOf Tryz.prog 39 = some [(36, 0, 1), (37, 1, 1)] := by kernel_rfl
theorem bd39 (H : Hint) (d : Nat) (ty : TypeId) (ps : Array (Nat × Operand)) (s : St) : evV Tryz.prog H d ty (.build 39 ps) s = aggO (buildL Tryz.prog [(36, 0, 1), (37, 1, 1)] s [V.slc true 1 [], V.slc true 1 []] ps.toList) := build_lay la39 ze39
theorem xb39 (H : Hint) (d : Nat) (ty : TypeId) (ps : Array (Nat × Operand)) (pos : String) (aft : Array Edge) (g : Option (Nat × Bool)) : isX Tryz.prog H { dst := some d, op := .build 39 ps, type := ty, pos := pos, after := aft, guard := g } = !memN d H.arrs := by kernel_rfl
theorem fa39_0 (v : V) : vFieldAddr Tryz.prog 39 0 v = faddr 0 v := by kernel_rfl
theorem fg39_0 (s : St) (v : V) : vField Tryz.prog s 39 0 v = fget 0 1 false v := by kernel_rfl
theorem fa39_1 (v : V) : vFieldAddr Tryz.prog 39 1 v = faddr 1 v := by kernel_rfl
theorem fg39_1 (s : St) (v : V) : vField Tryz.prog s 39 1 v = fget 1 1 false v := by kernel_rfl
theorem sz41 : szOf Tryz.prog 41 = 1 := by kernel_rfl
theorem ag41 : isAgg Tryz.prog 41 = false := by kernel_rfl
theorem ze41 : zero Tryz.prog 41 = some [V.nilfn] := by kernel_rfl
theorem sz42 : szOf Tryz.prog 42 = 1 := by kernel_rfl
theorem ag42 : isAgg Tryz.prog 42 = false := by kernel_rfl
theorem ze42 : zero Tryz.prog 42 = some [V.nilfn] := by kernel_rfl
theorem sz43 : szOf Tryz.prog 43 = 1 := by kernel_rfl
theorem ag43 : isAgg Tryz.prog 43 = false := by kernel_rfl
theorem ze43 : zero Tryz.prog 43 = some [V.nilfn] := by kernel_rfl
theorem sz44 : szOf Tryz.prog 44 = 1 := by kernel_rfl
theorem ag44 : isAgg Tryz.prog 44 = false := by kernel_rfl
theorem ze44 : zero Tryz.prog 44 = some [V.nilfn] := by kernel_rfl
theorem sz46 : szOf Tryz.prog 46 = 1 := by kernel_rfl
theorem ag46 : isAgg Tryz.prog 46 = false := by kernel_rfl
theorem ze46 : zero Tryz.prog 46 = some [V.nilfn] := by kernel_rfl
theorem sz47 : szOf Tryz.prog 47 = 2 := by kernel_rfl
theorem ag47 : isAgg Tryz.prog 47 = true := by kernel_rfl
theorem ze47 : zero Tryz.prog 47 = some [V.str ⟨#[]⟩, V.str ⟨#[]⟩] := by kernel_rfl
theorem la47 : layOf Tryz.prog 47 = some [(9, 0, 1), (9, 1, 1)] := by kernel_rfl
theorem bd47 (H : Hint) (d : Nat) (ty : TypeId) (ps : Array (Nat × Operand)) (s : St) : evV Tryz.prog H d ty (.build 47 ps) s = aggO (buildL Tryz.prog [(9, 0, 1), (9, 1, 1)] s [V.str ⟨#[]⟩, V.str ⟨#[]⟩] ps.toList) := build_lay la47 ze47
theorem xb47 (H : Hint) (d : Nat) (ty : TypeId) (ps : Array (Nat × Operand)) (pos : String) (aft : Array Edge) (g : Option (Nat × Bool)) : isX Tryz.prog H { dst := some d, op := .build 47 ps, type := ty, pos := pos, after := aft, guard := g } = !memN d H.arrs := by kernel_rfl
theorem fa47_0 (v : V) : vFieldAddr Tryz.prog 47 0 v = faddr 0 v := by kernel_rfl
theorem fg47_0 (s : St) (v : V) : vField Tryz.prog s 47 0 v = fget 0 1 false v := by kernel_rfl
theorem fa47_1 (v : V) : vFieldAddr Tryz.prog 47 1 v = faddr 1 v := by kernel_rfl
theorem fg47_1 (s : St) (v : V) : vField Tryz.prog s 47 1 v = fget 1 1 false v := by kernel_rfl
theorem sz48 : szOf Tryz.prog 48 = 2 := by kernel_rfl
theorem ag48 : isAgg Tryz.prog 48 = true := by kernel_rfl
theorem ze48 : zero Tryz.prog 48 = some [V.str ⟨#[]⟩, V.str ⟨#[]⟩] := by kernel_rfl
theorem la48 : layOf Tryz.prog 48 = some [(9, 0, 1), (9, 1, 1)] := by kernel_rfl
theorem bd48 (H : Hint) (d : Nat) (ty : TypeId) (ps : Array (Nat × Operand)) (s : St) : evV Tryz.prog H d ty (.build 48 ps) s = aggO (buildL Tryz.prog [(9, 0, 1), (9, 1, 1)] s [V.str ⟨#[]⟩, V.str ⟨#[]⟩] ps.toList) := build_lay la48 ze48
theorem xb48 (H : Hint) (d : Nat) (ty : TypeId) (ps : Array (Nat × Operand)) (pos : String) (aft : Array Edge) (g : Option (Nat × Bool)) : isX Tryz.prog H { dst := some d, op := .build 48 ps, type := ty, pos := pos, after := aft, guard := g } = !memN d H.arrs := by kernel_rfl
theorem fa48_0 (v : V) : vFieldAddr Tryz.prog 48 0 v = faddr 0 v := by kernel_rfl
theorem fg48_0 (s : St) (v : V) : vField Tryz.prog s 48 0 v = fget 0 1 false v := by kernel_rfl
theorem fa48_1 (v : V) : vFieldAddr Tryz.prog 48 1 v = faddr 1 v := by kernel_rfl
theorem fg48_1 (s : St) (v : V) : vField Tryz.prog s 48 1 v = fget 1 1 false v := by kernel_rfl
theorem ev48 (x0 y0 : ByteArray) (x1 y1 : ByteArray) : eqV Tryz.prog 48 (.agg [V.str x0, V.str x1]) (.agg [V.str y0, V.str y1]) = some ((x0.toList == y0.toList) && ((x1.toList == y1.toList) && true)) := by kernel_rfl
theorem eg48 : Tryz.prog.eqGuardType Tryz.prog.depth 48 = false := by kernel_rfl
theorem u49 : Tryz.prog.underlying 49 = some (.slice 3) := by kernel_rfl
theorem sz49 : szOf Tryz.prog 49 = 1 := by kernel_rfl
theorem ag49 : isAgg Tryz.prog 49 = false := by kernel_rfl
theorem eo49 : elemOf Tryz.prog 49 = 3 := by kernel_rfl
theorem es49 : elemSz Tryz.prog 49 = 1 := by kernel_rfl
theorem gr49 : growB Tryz.prog 49 = true := by kernel_rfl
theorem df49 : dflt Tryz.prog 49 = V.int .i64 0 := by kernel_rfl
theorem ze49 : zero Tryz.prog 49 = some [V.slc true 1 []] := by kernel_rfl
theorem sz50 : szOf Tryz.prog 50 = 3 := by kernel_rfl
theorem ag50 : isAgg Tryz.prog 50 = true := by kernel_rfl
theorem ze50 : zero Tryz.prog 50 = some [V.slc true 1 [], V.slc true 1 [], V.slc true 1 []] := by kernel_rfl
theorem la50 : layOf Tryz.prog 50 = some [(37, 0, 1), (49, 1, 1), (37, 2, 1)] := by kernel_rfl
theorem bd50 (H : Hint) (d : Nat) (ty : TypeId) (ps : Array (Nat × Operand)) (s : St) : evV Tryz.prog H d ty (.build 50 ps) s = aggO (buildL Tryz.prog [(37, 0, 1), (49, 1, 1), (37, 2, 1)] s [V.slc true 1 [], V.slc true 1 [], V.slc true 1 []] ps.toList) := build_lay la50 ze50
theorem xb50 (H : Hint) (d : Nat) (ty : TypeId) (ps : Array (Nat × Operand)) (pos : String) (aft : Array Edge) (g : Option (Nat × Bool)) : isX Tryz.prog H { dst := some d, op := .build 50 ps, type := ty, pos := pos, after := aft, guard := g } = !memN d H.arrs := by kernel_rfl
theorem fa50_0 (v : V) : vFieldAddr Tryz.prog 50 0 v = faddr 0 v := by kernel_rfl
theorem fg50_0 (s : St) (v : V) : vField Tryz.prog s 50 0 v = fget 0 1 false v := by kernel_rfl
theorem fa50_1 (v : V) : vFieldAddr Tryz.prog 50 1 v = faddr 1 v := by kernel_rfl
theorem fg50_1 (s : St) (v : V) : vField Tryz.prog s 50 1 v = fget 1 1 false v := by kernel_rfl
theorem fa50_2 (v : V) : vFieldAddr Tryz.prog 50 2 v = faddr 2 v := by kernel_rfl
theorem fg50_2 (s : St) (v : V) : vField Tryz.prog s 50 2 v = fget 2 1 false v := by kernel_rfl
theorem sz51 : szOf Tryz.prog 51 = 3 := by kernel_rfl
theorem ag51 : isAgg Tryz.prog 51 = true := by kernel_rfl
theorem ze51 : zero Tryz.prog 51 = some [V.slc true 1 [], V.slc true 1 [], V.slc true 1 []] := by kernel_rfl
theorem la51 : layOf Tryz.prog 51 = some [(37, 0, 1), (49, 1, 1), (37, 2, 1)] := by kernel_rfl
theorem bd51 (H : Hint) (d : Nat) (ty : TypeId) (ps : Array (Nat × Operand)) (s : St) : evV Tryz.prog H d ty (.build 51 ps) s = aggO (buildL Tryz.prog [(37, 0, 1), (49, 1, 1), (37, 2, 1)] s [V.slc true 1 [], V.slc true 1 [], V.slc true 1 []] ps.toList) := build_lay la51 ze51
theorem xb51 (H : Hint) (d : Nat) (ty : TypeId) (ps : Array (Nat × Operand)) (pos : String) (aft : Array Edge) (g : Option (Nat × Bool)) : isX Tryz.prog H { dst := some d, op := .build 51 ps, type := ty, pos := pos, after := aft, guard := g } = !memN d H.arrs := by kernel_rfl
theorem fa51_0 (v : V) : vFieldAddr Tryz.prog 51 0 v = faddr 0 v := by kernel_rfl
theorem fg51_0 (s : St) (v : V) : vField Tryz.prog s 51 0 v = fget 0 1 false v := by kernel_rfl
theorem fa51_1 (v : V) : vFieldAddr Tryz.prog 51 1 v = faddr 1 v := by kernel_rfl
theorem fg51_1 (s : St) (v : V) : vField Tryz.prog s 51 1 v = fget 1 1 false v := by kernel_rfl
theorem fa51_2 (v : V) : vFieldAddr Tryz.prog 51 2 v = faddr 2 v := by kernel_rfl
theorem fg51_2 (s : St) (v : V) : vField Tryz.prog s 51 2 v = fget 2 1 false v := by kernel_rfl
theorem sz52 : szOf Tryz.prog 52 = 6 := by kernel_rfl
theorem ag52 : isAgg Tryz.prog 52 = true := by kernel_rfl
theorem ze52 : zero Tryz.prog 52 = some [V.str ⟨#[]⟩, V.str ⟨#[]⟩, V.slc true 1 [], V.slc true 1 [], V.slc true 1 [], V.slc true 1 []] := by kernel_rfl
theorem la52 : layOf Tryz.prog 52 = some [(48, 0, 2), (51, 2, 3), (37, 5, 1)] := by kernel_rfl
theorem bd52 (H : Hint) (d : Nat) (ty : TypeId) (ps : Array (Nat × Operand)) (s : St) : evV Tryz.prog H d ty (.build 52 ps) s = aggO (buildL Tryz.prog [(48, 0, 2), (51, 2, 3), (37, 5, 1)] s [V.str ⟨#[]⟩, V.str ⟨#[]⟩, V.slc true 1 [], V.slc true 1 [], V.slc true 1 [], V.slc true 1 []] ps.toList) := build_lay la52 ze52
theorem xb52 (H : Hint) (d : Nat) (ty : TypeId) (ps : Array (Nat × Operand)) (pos : String) (aft : Array Edge) (g : Option (Nat × Bool)) : isX Tryz.prog H { dst := some d, op := .build 52 ps, type := ty, pos := pos, after := aft, guard := g } = !memN d H.arrs := by kernel_rfl
theorem fa52_0 (v : V) : vFieldAddr Tryz.prog 52 0 v = faddr 0 v := by kernel_rfl
theorem fg52_0 (s : St) (v : V) : vField Tryz.prog s 52 0 v = fget 0 2 true v := by kernel_rfl
theorem fa52_1 (v : V) : vFieldAddr Tryz.prog 52 1 v = faddr 2 v := by kernel_rfl
theorem fg52_1 (s : St) (v : V) : vField Tryz.prog s 52 1 v = fget 2 3 true v := by kernel_rfl
theorem fa52_2 (v : V) : vFieldAddr Tryz.prog 52 2 v = faddr 5 v := by kernel_rfl
theorem fg52_2 (s : St) (v : V) : vField Tryz.prog s 52 2 v = fget 5 1 false v := by kernel_rfl
theorem sz53 : szOf Tryz.prog 53 = 6 := by kernel_rfl
theorem ag53 : isAgg Tryz.prog 53 = true := by kernel_rfl
theorem ze53 : zero Tryz.prog 53 = some [V.str ⟨#[]⟩, V.str ⟨#[]⟩, V.slc true 1 [], V.slc true 1 [], V.slc true 1 [], V.slc true 1 []] := by kernel_rfl
theorem la53 : layOf Tryz.prog 53 = some [(48, 0, 2), (51, 2, 3), (37, 5, 1)] := by kernel_rfl
theorem bd53 (H : Hint) (d : Nat) (ty : TypeId) (ps : Array (Nat × Operand)) (s : St) : evV Tryz.prog H d ty (.build 53 ps) s = aggO (buildL Tryz.prog [(48, 0, 2), (51, 2, 3), (37, 5, 1)] s [V.str ⟨#[]⟩, V.str ⟨#[]⟩, V.slc true 1 [], V.slc true 1 [], V.slc true 1 [], V.slc true 1 []] ps.toList) := build_lay la53 ze53
theorem xb53 (H : Hint) (d : Nat) (ty : TypeId) (ps : Array (Nat × Operand)) (pos : String) (aft : Array Edge) (g : Option (Nat × Bool)) : isX Tryz.prog H { dst := some d, op := .build 53 ps, type := ty, pos := pos, after := aft, guard := g } = !memN d H.arrs := by kernel_rfl
theorem fa53_0 (v : V) : vFieldAddr Tryz.prog 53 0 v = faddr 0 v := by kernel_rfl
theorem fg53_0 (s : St) (v : V) : vField Tryz.prog s 53 0 v = fget 0 2 true v := by kernel_rfl
theorem fa53_1 (v : V) : vFieldAddr Tryz.prog 53 1 v = faddr 2 v := by kernel_rfl
theorem fg53_1 (s : St) (v : V) : vField Tryz.prog s 53 1 v = fget 2 3 true v := by kernel_rfl
theorem fa53_2 (v : V) : vFieldAddr Tryz.prog 53 2 v = faddr 5 v := by kernel_rfl
theorem fg53_2 (s : St) (v : V) : vField Tryz.prog s 53 2 v = fget 5 1 false v := by kernel_rfl
theorem sz54 : szOf Tryz.prog 54 = 1 := by kernel_rfl
theorem ag54 : isAgg Tryz.prog 54 = false := by kernel_rfl
theorem ze54 : zero Tryz.prog 54 = some [V.nilfn] := by kernel_rfl
theorem u55 : Tryz.prog.underlying 55 = some (.slice 119) := by kernel_rfl
theorem sz55 : szOf Tryz.prog 55 = 1 := by kernel_rfl
theorem ag55 : isAgg Tryz.prog 55 = false := by kernel_rfl
theorem eo55 : elemOf Tryz.prog 55 = 119 := by kernel_rfl
theorem es55 : elemSz Tryz.prog 55 = 3 := by kernel_rfl
theorem gr55 : growB Tryz.prog 55 = true := by kernel_rfl
theorem df55 : dflt Tryz.prog 55 = V.agg [V.str ⟨#[]⟩, V.str ⟨#[]⟩, V.slc false 1 []] := by kernel_rfl
theorem ze55 : zero Tryz.prog 55 = some [V.slc true 3 []] := by kernel_rfl
theorem sz56 : szOf Tryz.prog 56 = 3 := by kernel_rfl
theorem ag56 : isAgg Tryz.prog 56 = true := by kernel_rfl
theorem ze56 : zero Tryz.prog 56 = some [V.str ⟨#[]⟩, V.str ⟨#[]⟩, V.str ⟨#[]⟩] := by kernel_rfl
theorem la56 : layOf Tryz.prog 56 = some [(9, 0, 1), (9, 1, 1), (9, 2, 1)] := by kernel_rfl
theorem bd56 (H : Hint) (d : Nat) (ty : TypeId) (ps : Array (Nat × Operand)) (s : St) : evV Tryz.prog H d ty (.build 56 ps) s = aggO (buildL Tryz.prog [(9, 0, 1), (9, 1, 1), (9, 2, 1)] s [V.str ⟨#[]⟩, V.str ⟨#[]⟩, V.str ⟨#[]⟩] ps.toList) := build_lay la56 ze56
theorem xb56 (H : Hint) (d : Nat) (ty : TypeId) (ps : Array (Nat × Operand)) (pos : String) (aft : Array Edge) (g : Option (Nat × Bool)) : isX Tryz.prog H { dst := some d, op := .build 56 ps, type := ty, pos := pos, after := aft, guard := g } = !memN d H.arrs := by kernel_rfl
theorem fa56_0 (v : V) : vFieldAddr Tryz.prog 56 0 v = faddr 0 v := by kernel_rfl
theorem fg56_0 (s : St) (v : V) : vField Tryz.prog s 56 0 v = fget 0 1 false v := by kernel_rfl
theorem fa56_1 (v : V) : vFieldAddr Tryz.prog 56 1 v = faddr 1 v := by kernel_rfl
theorem fg56_1 (s : St) (v : V) : vField Tryz.prog s 56 1 v = fget 1 1 false v := by kernel_rfl
theorem fa56_2 (v : V) : vFieldAddr Tryz.prog 56 2 v = faddr 2 v := by kernel_rfl
theorem fg56_2 (s : St) (v : V) : vField Tryz.prog s 56 2 v = fget 2 1 false v := by kernel_rfl
theorem sz57 : szOf Tryz.prog 57 = 3 := by kernel_rfl
theorem ag57 : isAgg Tryz.prog 57 = true := by kernel_rfl
theorem ze57 : zero Tryz.prog 57 = some [V.str ⟨#[]⟩, V.str ⟨#[]⟩, V.str ⟨#[]⟩] := by kernel_rfl
theorem la57 : layOf Tryz.prog 57 = some [(9, 0, 1), (9, 1, 1), (9, 2, 1)] := by kernel_rfl
theorem bd57 (H : Hint) (d : Nat) (ty : TypeId) (ps : Array (Nat × Operand)) (s : St) : evV Tryz.prog H d ty (.build 57 ps) s = aggO (buildL Tryz.prog [(9, 0, 1), (9, 1, 1), (9, 2, 1)] s [V.str ⟨#[]⟩, V.str ⟨#[]⟩, V.str ⟨#[]⟩] ps.toList) := build_lay la57 ze57
theorem xb57 (H : Hint) (d : Nat) (ty : TypeId) (ps : Array (Nat × Operand)) (pos : String) (aft : Array Edge) (g : Option (Nat × Bool)) : isX Tryz.prog H { dst := some d, op := .build 57 ps, type := ty, pos := pos, after := aft, guard := g } = !memN d H.arrs := by kernel_rfl
theorem fa57_0 (v : V) : vFieldAddr Tryz.prog 57 0 v = faddr 0 v := by kernel_rfl
theorem fg57_0 (s : St) (v : V) : vField Tryz.prog s 57 0 v = fget 0 1 false v := by kernel_rfl
theorem fa57_1 (v : V) : vFieldAddr Tryz.prog 57 1 v = faddr 1 v := by kernel_rfl
theorem fg57_1 (s : St) (v : V) : vField Tryz.prog s 57 1 v = fget 1 1 false v := by kernel_rfl
theorem fa57_2 (v : V) : vFieldAddr Tryz.prog 57 2 v = faddr 2 v := by kernel_rfl
theorem fg57_2 (s : St) (v : V) : vField Tryz.prog s 57 2 v = fget 2 1 false v := by kernel_rfl
theorem ev57 (x0 y0 : ByteArray) (x1 y1 : ByteArray) (x2 y2 : ByteArray) : eqV Tryz.prog 57 (.agg [V.str x0, V.str x1, V.str x2]) (.agg [V.str y0, V.str y1, V.str y2]) = some ((x0.toList == y0.toList) && ((x1.toList == y1.toList) && ((x2.toList == y2.toList) && true))) := by kernel_rfl
theorem eg57 : Tryz.prog.eqGuardType Tryz.prog.depth 57 = false := by kernel_rfl
theorem sz58 : szOf Tryz.prog 58 = 5 := by kernel_rfl
theorem ag58 : isAgg Tryz.prog 58 = true := by kernel_rfl
theorem ze58 : zero Tryz.prog 58 = some [V.int .i64 0, V.slc true 3 [], V.str ⟨#[]⟩, V.str ⟨#[]⟩, V.str ⟨#[]⟩] := by kernel_rfl
theorem la58 : layOf Tryz.prog 58 = some [(3, 0, 1), (55, 1, 1), (57, 2, 3)] := by kernel_rfl
theorem bd58 (H : Hint) (d : Nat) (ty : TypeId) (ps : Array (Nat × Operand)) (s : St) : evV Tryz.prog H d ty (.build 58 ps) s = aggO (buildL Tryz.prog [(3, 0, 1), (55, 1, 1), (57, 2, 3)] s [V.int .i64 0, V.slc true 3 [], V.str ⟨#[]⟩, V.str ⟨#[]⟩, V.str ⟨#[]⟩] ps.toList) := build_lay la58 ze58
theorem xb58 (H : Hint) (d : Nat) (ty : TypeId) (ps : Array (Nat × Operand)) (pos : String) (aft : Array Edge) (g : Option (Nat × Bool)) : isX Tryz.prog H { dst := some d, op := .build 58 ps, type := ty, pos := pos, after := aft, guard := g } = !memN d H.arrs := by kernel_rfl
theorem fa58_0 (v : V) : vFieldAddr Tryz.prog 58 0 v = faddr 0 v := by kernel_rfl
theorem fg58_0 (s : St) (v : V) : vField Tryz.prog s 58 0 v = fget 0 1 false v := by kernel_rfl
theorem fa58_1 (v : V) : vFieldAddr Tryz.prog 58 1 v = faddr 1 v := by kernel_rfl
theorem fg58_1 (s : St) (v : V) : vField Tryz.prog s 58 1 v = fget 1 1 false v := by kernel_rfl
theorem fa58_2 (v : V) : vFieldAddr Tryz.prog 58 2 v = faddr 2 v := by kernel_rfl
theorem fg58_2 (s : St) (v : V) : vField Tryz.prog s 58 2 v = fget 2 3 true v := by kernel_rfl
theorem sz59 : szOf Tryz.prog 59 = 5 := by kernel_rfl
theorem ag59 : isAgg Tryz.prog 59 = true := by kernel_rfl
theorem ze59 : zero Tryz.prog 59 = some [V.int .i64 0, V.slc true 3 [], V.str ⟨#[]⟩, V.str ⟨#[]⟩, V.str ⟨#[]⟩] := by kernel_rfl
theorem la59 : layOf Tryz.prog 59 = some [(3, 0, 1), (55, 1, 1), (57, 2, 3)] := by kernel_rfl
theorem bd59 (H : Hint) (d : Nat) (ty : TypeId) (ps : Array (Nat × Operand)) (s : St) : evV Tryz.prog H d ty (.build 59 ps) s = aggO (buildL Tryz.prog [(3, 0, 1), (55, 1, 1), (57, 2, 3)] s [V.int .i64 0, V.slc true 3 [], V.str ⟨#[]⟩, V.str ⟨#[]⟩, V.str ⟨#[]⟩] ps.toList) := build_lay la59 ze59
theorem xb59 (H : Hint) (d : Nat) (ty : TypeId) (ps : Array (Nat × Operand)) (pos : String) (aft : Array Edge) (g : Option (Nat × Bool)) : isX Tryz.prog H { dst := some d, op := .build 59 ps, type := ty, pos := pos, after := aft, guard := g } = !memN d H.arrs := by kernel_rfl
theorem fa59_0 (v : V) : vFieldAddr Tryz.prog 59 0 v = faddr 0 v := by kernel_rfl
theorem fg59_0 (s : St) (v : V) : vField Tryz.prog s 59 0 v = fget 0 1 false v := by kernel_rfl
theorem fa59_1 (v : V) : vFieldAddr Tryz.prog 59 1 v = faddr 1 v := by kernel_rfl
theorem fg59_1 (s : St) (v : V) : vField Tryz.prog s 59 1 v = fget 1 1 false v := by kernel_rfl
theorem fa59_2 (v : V) : vFieldAddr Tryz.prog 59 2 v = faddr 2 v := by kernel_rfl
theorem fg59_2 (s : St) (v : V) : vField Tryz.prog s 59 2 v = fget 2 3 true v := by kernel_rfl
theorem sz60 : szOf Tryz.prog 60 = 1 := by kernel_rfl
theorem ag60 : isAgg Tryz.prog 60 = false := by kernel_rfl
theorem ze60 : zero Tryz.prog 60 = some [V.nilfn] := by kernel_rfl
theorem sz61 : szOf Tryz.prog 61 = 2 := by kernel_rfl
theorem ag61 : isAgg Tryz.prog 61 = true := by kernel_rfl
theorem ze61 : zero Tryz.prog 61 = some [V.str ⟨#[]⟩, V.str ⟨#[]⟩] := by kernel_rfl
theorem la61 : layOf Tryz.prog 61 = some [(9, 0, 1), (9, 1, 1)] := by kernel_rfl
theorem bd61 (H : Hint) (d : Nat) (ty : TypeId) (ps : Array (Nat × Operand)) (s : St) : evV Tryz.prog H d ty (.build 61 ps) s = aggO (buildL Tryz.prog [(9, 0, 1), (9, 1, 1)] s [V.str ⟨#[]⟩, V.str ⟨#[]⟩] ps.toList) := build_lay la61 ze61
theorem xb61 (H : Hint) (d : Nat) (ty : TypeId) (ps : Array (Nat × Operand)) (pos : String) (aft : Array Edge) (g : Option (Nat × Bool)) : isX Tryz.prog H { dst := some d, op := .build 61 ps, type := ty, pos := pos, after := aft, guard := g } = !memN d H.arrs := by kernel_rfl
theorem fa61_0 (v : V) : vFieldAddr Tryz.prog 61 0 v = faddr 0 v := by kernel_rfl
theorem fg61_0 (s : St) (v : V) : vField Tryz.prog s 61 0 v = fget 0 1 false v := by kernel_rfl
theorem fa61_1 (v : V) : vFieldAddr Tryz.prog 61 1 v = faddr 1 v := by kernel_rfl
theorem fg61_1 (s : St) (v : V) : vField Tryz.prog s 61 1 v = fget 1 1 false v := by kernel_rfl
theorem ev61 (x0 y0 : ByteArray) (x1 y1 : ByteArray) : eqV Tryz.prog 61 (.agg [V.str x0, V.str x1]) (.agg [V.str y0, V.str y1]) = some ((x0.toList == y0.toList) && ((x1.toList == y1.toList) && true)) := by kernel_rfl
theorem eg61 : Tryz.prog.eqGuardType Tryz.prog.depth 61 = false := by kernel_rfl
theorem sz62 : szOf Tryz.prog 62 = 3 := by kernel_rfl
theorem ag62 : isAgg Tryz.prog 62 = true := by kernel_rfl
theorem ze62 : zero Tryz.prog 62 = some [V.slc true 1 [], V.slc true 1 [], V.slc true 1 []] := by kernel_rfl
theorem la62 : layOf Tryz.prog 62 = some [(37, 0, 1), (49, 1, 1), (37, 2, 1)] := by kernel_rfl
theorem bd62 (H : Hint) (d : Nat) (ty : TypeId) (ps : Array (Nat × Operand)) (s : St) : evV Tryz.prog H d ty (.build 62 ps) s = aggO (buildL Tryz.prog [(37, 0, 1), (49, 1, 1), (37, 2, 1)] s [V.slc true 1 [], V.slc true 1 [], V.slc true 1 []] ps.toList) := build_lay la62 ze62
theorem xb62 (H : Hint) (d : Nat) (ty : TypeId) (ps : Array (Nat × Operand)) (pos : String) (aft : Array Edge) (g : Option (Nat × Bool)) : isX Tryz.prog H { dst := some d, op := .build 62 ps, type := ty, pos := pos, after := aft, guard := g } = !memN d H.arrs := by kernel_rfl
theorem fa62_0 (v : V) : vFieldAddr Tryz.prog 62 0 v = faddr 0 v := by kernel_rfl
theorem fg62_0 (s : St) (v : V) : vField Tryz.prog s 62 0 v = fget 0 1 false v := by kernel_rfl
theorem fa62_1 (v : V) : vFieldAddr Tryz.prog 62 1 v = faddr 1 v := by kernel_rfl
theorem fg62_1 (s : St) (v : V) : vField Tryz.prog s 62 1 v = fget 1 1 false v := by kernel_rfl
theorem fa62_2 (v : V) : vFieldAddr Tryz.prog 62 2 v = faddr 2 v := by kernel_rfl
theorem fg62_2 (s : St) (v : V) : vField Tryz.prog s 62 2 v = fget 2 1 false v := by kernel_rfl
theorem sz63 : szOf Tryz.prog 63 = 6 := by kernel_rfl
theorem ag63 : isAgg Tryz.prog 63 = true := by kernel_rfl
theorem ze63 : zero Tryz.prog 63 = some [V.str ⟨#[]⟩, V.str ⟨#[]⟩, V.slc true 1 [], V.slc true 1 [], V.slc true 1 [], V.slc true 1 []] := by kernel_rfl
theorem la63 : layOf Tryz.prog 63 = some [(61, 0, 2), (62, 2, 3), (37, 5, 1)] := by kernel_rfl
theorem bd63 (H : Hint) (d : Nat) (ty : TypeId) (ps : Array (Nat × Operand)) (s : St) : evV Tryz.prog H d ty (.build 63 ps) s = aggO (buildL Tryz.prog [(61, 0, 2), (62, 2, 3), (37, 5, 1)] s [V.str ⟨#[]⟩, V.str ⟨#[]⟩, V.slc true 1 [], V.slc true 1 [], V.slc true 1 [], V.slc true 1 []] ps.toList) := build_lay la63 ze63
theorem xb63 (H : Hint) (d : Nat) (ty : TypeId) (ps : Array (Nat × Operand)) (pos : String) (aft : Array Edge) (g : Option (Nat × Bool)) : isX Tryz.prog H { dst := some d, op := .build 63 ps, type := ty, pos := pos, after := aft, guard := g } = !memN d H.arrs := by kernel_rfl
theorem fa63_0 (v : V) : vFieldAddr Tryz.prog 63 0 v = faddr 0 v := by kernel_rfl
theorem fg63_0 (s : St) (v : V) : vField Tryz.prog s 63 0 v = fget 0 2 true v := by kernel_rfl
theorem fa63_1 (v : V) : vFieldAddr Tryz.prog 63 1 v = faddr 2 v := by kernel_rfl
theorem fg63_1 (s : St) (v : V) : vField Tryz.prog s 63 1 v = fget 2 3 true v := by kernel_rfl
theorem fa63_2 (v : V) : vFieldAddr Tryz.prog 63 2 v = faddr 5 v := by kernel_rfl
theorem fg63_2 (s : St) (v : V) : vField Tryz.prog s 63 2 v = fget 5 1 false v := by kernel_rfl
theorem sz64 : szOf Tryz.prog 64 = 6 := by kernel_rfl
theorem ag64 : isAgg Tryz.prog 64 = true := by kernel_rfl
theorem ze64 : zero Tryz.prog 64 = some [V.str ⟨#[]⟩, V.str ⟨#[]⟩, V.slc true 1 [], V.slc true 1 [], V.slc true 1 [], V.slc true 1 []] := by kernel_rfl
theorem la64 : layOf Tryz.prog 64 = some [(61, 0, 2), (62, 2, 3), (37, 5, 1)] := by kernel_rfl
theorem bd64 (H : Hint) (d : Nat) (ty : TypeId) (ps : Array (Nat × Operand)) (s : St) : evV Tryz.prog H d ty (.build 64 ps) s = aggO (buildL Tryz.prog [(61, 0, 2), (62, 2, 3), (37, 5, 1)] s [V.str ⟨#[]⟩, V.str ⟨#[]⟩, V.slc true 1 [], V.slc true 1 [], V.slc true 1 [], V.slc true 1 []] ps.toList) := build_lay la64 ze64
theorem xb64 (H : Hint) (d : Nat) (ty : TypeId) (ps : Array (Nat × Operand)) (pos : String) (aft : Array Edge) (g : Option (Nat × Bool)) : isX Tryz.prog H { dst := some d, op := .build 64 ps, type := ty, pos := pos, after := aft, guard := g } = !memN d H.arrs := by kernel_rfl
theorem fa64_0 (v : V) : vFieldAddr Tryz.prog 64 0 v = faddr 0 v := by kernel_rfl
theorem fg64_0 (s : St) (v : V) : vField Tryz.prog s 64 0 v = fget 0 2 true v := by kernel_rfl
theorem fa64_1 (v : V) : vFieldAddr Tryz.prog 64 1 v = faddr 2 v := by kernel_rfl
theorem fg64_1 (s : St) (v : V) : vField Tryz.prog s 64 1 v = fget 2 3 true v := by kernel_rfl
theorem fa64_2 (v : V) : vFieldAddr Tryz.prog 64 2 v = faddr 5 v := by kernel_rfl
theorem fg64_2 (s : St) (v : V) : vField Tryz.prog s 64 2 v = fget 5 1 false v := by kernel_rfl
theorem sz65 : szOf Tryz.prog 65 = 1 := by kernel_rfl
theorem ag65 : isAgg Tryz.prog 65 = false := by kernel_rfl
theorem ze65 : zero Tryz.prog 65 = some [V.nilfn] := by kernel_rfl
theorem sz66 : szOf Tryz.prog 66 = 1 := by kernel_rfl
theorem ag66 : isAgg Tryz.prog 66 = false := by kernel_rfl
theorem ze66 : zero Tryz.prog 66 = some [V.nilfn] := by kernel_rfl
theorem sz67 : szOf Tryz.prog 67 = 1 := by kernel_rfl
theorem ag67 : isAgg Tryz.prog 67 = false := by kernel_rfl
theorem ze67 : zero Tryz.prog 67 = some [V.nilfn] := by kernel_rfl
theorem sz68 : szOf Tryz.prog 68 = 1 := by kernel_rfl
theorem ag68 : isAgg Tryz.prog 68 = false := by kernel_rfl
theorem ze68 : zero Tryz.prog 68 = some [V.nilfn] := by kernel_rfl
theorem sz69 : szOf Tryz.prog 69 = 1 := by kernel_rfl
theorem ag69 : isAgg Tryz.prog 69 = false := by kernel_rfl
theorem ze69 : zero Tryz.prog 69 = some [V.nilfn] := by kernel_rfl
theorem sz70 : szOf Tryz.prog 70 = 1 := by kernel_rfl
theorem ag70 : isAgg Tryz.prog 70 = false := by kernel_rfl
theorem ze70 : zero Tryz.prog 70 = some [V.nilfn] := by kernel_rfl
theorem u71 : Tryz.prog.underlying 71 = some (.slice 212) := by kernel_rfl
theorem sz71 : szOf Tryz.prog 71 = 1 := by kernel_rfl
theorem ag71 : isAgg Tryz.prog 71 = false := by kernel_rfl
theorem eo71 : elemOf Tryz.prog 71 = 212 := by kernel_rfl
theorem es71 : elemSz Tryz.prog 71 = 8 := by kernel_rfl
theorem gr71 : growB Tryz.prog 71 = true := by kernel_rfl
theorem df71 : dflt Tryz.prog 71 = V.agg [V.int .i64 0, V.str ⟨#[]⟩, V.str ⟨#[]⟩, V.int .i64 0, V.str ⟨#[]⟩, V.slc false 3 [], V.slc false 1 [], V.int .i64 0] := by kernel_rfl
theorem ze71 : zero Tryz.prog 71 = some [V.slc true 8 []] := by kernel_rfl
theorem sz72 : szOf Tryz.prog 72 = 1 := by kernel_rfl
theorem ag72 : isAgg Tryz.prog 72 = true := by kernel_rfl
theorem ze72 : zero Tryz.prog 72 = some [V.slc true 8 []] := by kernel_rfl
theorem la72 : layOf Tryz.prog 72 = some [(71, 0, 1)] := by kernel_rfl
theorem bd72 (H : Hint) (d : Nat) (ty : TypeId) (ps : Array (Nat × Operand)) (s : St) : evV Tryz.prog H d ty (.build 72 ps) s = aggO (buildL Tryz.prog [(71, 0, 1)] s [V.slc true 8 []] ps.toList) := build_lay la72 ze72
theorem xb72 (H : Hint) (d : Nat) (ty : TypeId) (ps : Array (Nat × Operand)) (pos : String) (aft : Array Edge) (g : Option (Nat × Bool)) : isX Tryz.prog H { dst := some d, op := .build 72 ps, type := ty, pos := pos, after := aft, guard := g } = !memN d H.arrs := by kernel_rfl
theorem fa72_0 (v : V) : vFieldAddr Tryz.prog 72 0 v = faddr 0 v := by kernel_rfl
theorem fg72_0 (s : St) (v : V) : vField Tryz.prog s 72 0 v = fget 0 1 false v := by kernel_rfl
theorem sz73 : szOf Tryz.prog 73 = 1 := by kernel_rfl
theorem ag73 : isAgg Tryz.prog 73 = true := by kernel_rfl
theorem ze73 : zero Tryz.prog 73 = some [V.slc true 8 []] := by kernel_rfl
theorem la73 : layOf Tryz.prog 73 = some [(71, 0, 1)] := by kernel_rfl
theorem bd73 (H : Hint) (d : Nat) (ty : TypeId) (ps : Array (Nat × Operand)) (s : St) : evV Tryz.prog H d ty (.build 73 ps) s = aggO (buildL Tryz.prog [(71, 0, 1)] s [V.slc true 8 []] ps.toList) := build_lay la73 ze73
theorem xb73 (H : Hint) (d : Nat) (ty : TypeId) (ps : Array (Nat × Operand)) (pos : String) (aft : Array Edge) (g : Option (Nat × Bool)) : isX Tryz.prog H { dst := some d, op := .build 73 ps, type := ty, pos := pos, after := aft, guard := g } = !memN d H.arrs := by kernel_rfl
theorem fa73_0 (v : V) : vFieldAddr Tryz.prog 73 0 v = faddr 0 v := by kernel_rfl
theorem fg73_0 (s : St) (v : V) : vField Tryz.prog s 73 0 v = fget 0 1 false v := by kernel_rfl
theorem sz74 : szOf Tryz.prog 74 = 1 := by kernel_rfl
theorem ag74 : isAgg Tryz.prog 74 = false := by kernel_rfl
theorem ze74 : zero Tryz.prog 74 = some [V.nilfn] := by kernel_rfl
theorem sz75 : szOf Tryz.prog 75 = 1 := by kernel_rfl
theorem ag75 : isAgg Tryz.prog 75 = false := by kernel_rfl
theorem ze75 : zero Tryz.prog 75 = some [V.nilfn] := by kernel_rfl
theorem u76 : Tryz.prog.underlying 76 = some (.slice 149) := by kernel_rfl
theorem sz76 : szOf Tryz.prog 76 = 1 := by kernel_rfl
theorem ag76 : isAgg Tryz.prog 76 = false := by kernel_rfl
theorem eo76 : elemOf Tryz.prog 76 = 149 := by kernel_rfl
theorem es76 : elemSz Tryz.prog 76 = 8 := by kernel_rfl
theorem gr76 : growB Tryz.prog 76 = true := by kernel_rfl
theorem df76 : dflt Tryz.prog 76 = V.agg [V.int .i64 0, V.str ⟨#[]⟩, V.str ⟨#[]⟩, V.int .i64 0, V.str ⟨#[]⟩, V.slc false 3 [], V.slc false 1 [], V.int .i64 0] := by kernel_rfl
theorem ze76 : zero Tryz.prog 76 = some [V.slc true 8 []] := by kernel_rfl
theorem sz77 : szOf Tryz.prog 77 = 1 := by kernel_rfl
theorem ag77 : isAgg Tryz.prog 77 = true := by kernel_rfl
theorem ze77 : zero Tryz.prog 77 = some [V.slc true 8 []] := by kernel_rfl
theorem la77 : layOf Tryz.prog 77 = some [(76, 0, 1)] := by kernel_rfl
theorem bd77 (H : Hint) (d : Nat) (ty : TypeId) (ps : Array (Nat × Operand)) (s : St) : evV Tryz.prog H d ty (.build 77 ps) s = aggO (buildL Tryz.prog [(76, 0, 1)] s [V.slc true 8 []] ps.toList) := build_lay la77 ze77
theorem xb77 (H : Hint) (d : Nat) (ty : TypeId) (ps : Array (Nat × Operand)) (pos : String) (aft : Array Edge) (g : Option (Nat × Bool)) : isX Tryz.prog H { dst := some d, op := .build 77 ps, type := ty, pos := pos, after := aft, guard := g } = !memN d H.arrs := by kernel_rfl
theorem fa77_0 (v : V) : vFieldAddr Tryz.prog 77 0 v = faddr 0 v := by kernel_rfl
theorem fg77_0 (s : St) (v : V) : vField Tryz.prog s 77 0 v = fget 0 1 false v := by kernel_rfl
theorem sz78 : szOf Tryz.prog 78 = 1 := by kernel_rfl
theorem ag78 : isAgg Tryz.prog 78 = true := by kernel_rfl
theorem ze78 : zero Tryz.prog 78 = some [V.slc true 8 []] := by kernel_rfl
theorem la78 : layOf Tryz.prog 78 = some [(76, 0, 1)] := by kernel_rfl
theorem bd78 (H : Hint) (d : Nat) (ty : TypeId) (ps : Array (Nat × Operand)) (s : St) : evV Tryz.prog H d ty (.build 78 ps) s = aggO (buildL Tryz.prog [(76, 0, 1)] s [V.slc true 8 []] ps.toList) := build_lay la78 ze78
theorem xb78 (H : Hint) (d : Nat) (ty : TypeId) (ps : Array (Nat × Operand)) (pos : String) (aft : Array Edge) (g : Option (Nat × Bool)) : isX Tryz.prog H { dst := some d, op := .build 78 ps, type := ty, pos := pos, after := aft, guard := g } = !memN d H.arrs := by kernel_rfl
theorem fa78_0 (v : V) : vFieldAddr Tryz.prog 78 0 v = faddr 0 v := by kernel_rfl
theorem fg78_0 (s : St) (v : V) : vField Tryz.prog s 78 0 v = fget 0 1 false v := by kernel_rfl
theorem sz79 : szOf Tryz.prog 79 = 1 := by kernel_rfl
theorem ag79 : isAgg Tryz.prog 79 = false := by kernel_rfl
theorem ze79 : zero Tryz.prog 79 = some [V.nilfn] := by kernel_rfl
theorem sz80 : szOf Tryz.prog 80 = 1 := by kernel_rfl
theorem ag80 : isAgg Tryz.prog 80 = false := by kernel_rfl
theorem ze80 : zero Tryz.prog 80 = some [V.nilfn] := by kernel_rfl
theorem sz81 : szOf Tryz.prog 81 = 1 := by kernel_rfl
theorem ag81 : isAgg Tryz.prog 81 = false := by kernel_rfl
theorem ze81 : zero Tryz.prog 81 = some [V.nilfn] := by kernel_rfl
theorem sz82 : szOf Tryz.prog 82 = 1 := by kernel_rfl
theorem ag82 : isAgg Tryz.prog 82 = false := by kernel_rfl
theorem ze82 : zero Tryz.prog 82 = some [V.nilfn] := by kernel_rfl
theorem sz83 : szOf Tryz.prog 83 = 1 := by kernel_rfl
theorem ag83 : isAgg Tryz.prog 83 = false := by kernel_rfl
theorem ze83 : zero Tryz.prog 83 = some [V.nilfn] := by kernel_rfl
theorem sz84 : szOf Tryz.prog 84 = 1 := by kernel_rfl
theorem ag84 : isAgg Tryz.prog 84 = false := by kernel_rfl
theorem ze84 : zero Tryz.prog 84 = some [V.nilfn] := by kernel_rfl
theorem sz85 : szOf Tryz.prog 85 = 3 := by kernel_rfl
theorem ag85 : isAgg Tryz.prog 85 = true := by kernel_rfl
theorem ze85 : zero Tryz.prog 85 = some [V.str ⟨#[]⟩, V.str ⟨#[]⟩, V.str ⟨#[]⟩] := by kernel_rfl
theorem la85 : layOf Tryz.prog 85 = some [(9, 0, 1), (9, 1, 1), (9, 2, 1)] := by kernel_rfl
theorem bd85 (H : Hint) (d : Nat) (ty : TypeId) (ps : Array (Nat × Operand)) (s : St) : evV Tryz.prog H d ty (.build 85 ps) s = aggO (buildL Tryz.prog [(9, 0, 1), (9, 1, 1), (9, 2, 1)] s [V.str ⟨#[]⟩, V.str ⟨#[]⟩, V.str ⟨#[]⟩] ps.toList) := build_lay la85 ze85
theorem xb85 (H : Hint) (d : Nat) (ty : TypeId) (ps : Array (Nat × Operand)) (pos : String) (aft : Array Edge) (g : Option (Nat × Bool)) : isX Tryz.prog H { dst := some d, op := .build 85 ps, type := ty, pos := pos, after := aft, guard := g } = !memN d H.arrs := by kernel_rfl
theorem fa85_0 (v : V) : vFieldAddr Tryz.prog 85 0 v = faddr 0 v := by kernel_rfl
theorem fg85_0 (s : St) (v : V) : vField Tryz.prog s 85 0 v = fget 0 1 false v := by kernel_rfl
theorem fa85_1 (v : V) : vFieldAddr Tryz.prog 85 1 v = faddr 1 v := by kernel_rfl
theorem fg85_1 (s : St) (v : V) : vField Tryz.prog s 85 1 v = fget 1 1 false v := by kernel_rfl
theorem fa85_2 (v : V) : vFieldAddr Tryz.prog 85 2 v = faddr 2 v := by kernel_rfl
theorem fg85_2 (s : St) (v : V) : vField Tryz.prog s 85 2 v = fget 2 1 false v := by kernel_rfl
theorem sz86 : szOf Tryz.prog 86 = 3 := by kernel_rfl
theorem ag86 : isAgg Tryz.prog 86 = true := by kernel_rfl
theorem ze86 : zero Tryz.prog 86 = some [V.str ⟨#[]⟩, V.str ⟨#[]⟩, V.str ⟨#[]⟩] := by kernel_rfl
theorem la86 : layOf Tryz.prog 86 = some [(9, 0, 1), (9, 1, 1), (9, 2, 1)] := by kernel_rfl
theorem bd86 (H : Hint) (d : Nat) (ty : TypeId) (ps : Array (Nat × Operand)) (s : St) : evV Tryz.prog H d ty (.build 86 ps) s = aggO (buildL Tryz.prog [(9, 0, 1), (9, 1, 1), (9, 2, 1)] s [V.str ⟨#[]⟩, V.str ⟨#[]⟩, V.str ⟨#[]⟩] ps.toList) := build_lay la86 ze86
theorem xb86 (H : Hint) (d : Nat) (ty : TypeId) (ps : Array (Nat × Operand)) (pos : String) (aft : Array Edge) (g : Option (Nat × Bool)) : isX Tryz.prog H { dst := some d, op := .build 86 ps, type := ty, pos := pos, after := aft, guard := g } = !memN d H.arrs := by kernel_rfl
theorem fa86_0 (v : V) : vFieldAddr Tryz.prog 86 0 v = faddr 0 v := by kernel_rfl
theorem fg86_0 (s : St) (v : V) : vField Tryz.prog s 86 0 v = fget 0 1 false v := by kernel_rfl
theorem fa86_1 (v : V) : vFieldAddr Tryz.prog 86 1 v = faddr 1 v := by kernel_rfl
theorem fg86_1 (s : St) (v : V) : vField Tryz.prog s 86 1 v = fget 1 1 false v := by kernel_rfl
theorem fa86_2 (v : V) : vFieldAddr Tryz.prog 86 2 v = faddr 2 v := by kernel_rfl
theorem fg86_2 (s : St) (v : V) : vField Tryz.prog s 86 2 v = fget 2 1 false v := by kernel_rfl
theorem ev86 (x0 y0 : ByteArray) (x1 y1 : ByteArray) (x2 y2 : ByteArray) : eqV Tryz.prog 86 (.agg [V.str x0, V.str x1, V.str x2]) (.agg [V.str y0, V.str y1, V.str y2]) = some ((x0.toList == y0.toList) && ((x1.toList == y1.toList) && ((x2.toList == y2.toList) && true))) := by kernel_rfl
theorem eg86 : Tryz.prog.eqGuardType Tryz.prog.depth 86 = false := by kernel_rfl
theorem u87 : Tryz.prog.underlying 87 = some (.slice 89) := by kernel_rfl
theorem sz87 : szOf Tryz.prog 87 = 1 := by kernel_rfl
theorem ag87 : isAgg Tryz.prog 87 = false := by kernel_rfl
theorem eo87 : elemOf Tryz.prog 87 = 89 := by kernel_rfl
theorem es87 : elemSz Tryz.prog 87 = 3 := by kernel_rfl
theorem gr87 : growB Tryz.prog 87 = true := by kernel_rfl
theorem df87 : dflt Tryz.prog 87 = V.agg [V.int .i64 0, V.str ⟨#[]⟩, V.slc false 3 []] := by kernel_rfl
theorem ze87 : zero Tryz.prog 87 = some [V.slc true 3 []] := by kernel_rfl
theorem sz88 : szOf Tryz.prog 88 = 3 := by kernel_rfl
theorem ag88 : isAgg Tryz.prog 88 = true := by kernel_rfl
theorem ze88 : zero Tryz.prog 88 = some [V.int .i64 0, V.str ⟨#[]⟩, V.slc true 3 []] := by kernel_rfl
theorem la88 : layOf Tryz.prog 88 = some [(3, 0, 1), (9, 1, 1), (87, 2, 1)] := by kernel_rfl
theorem bd88 (H : Hint) (d : Nat) (ty : TypeId) (ps : Array (Nat × Operand)) (s : St) : evV Tryz.prog H d ty (.build 88 ps) s = aggO (buildL Tryz.prog [(3, 0, 1), (9, 1, 1), (87, 2, 1)] s [V.int .i64 0, V.str ⟨#[]⟩, V.slc true 3 []] ps.toList) := build_lay la88 ze88
theorem xb88 (H : Hint) (d : Nat) (ty : TypeId) (ps : Array (Nat × Operand)) (pos : String) (aft : Array Edge) (g : Option (Nat × Bool)) : isX Tryz.prog H { dst := some d, op := .build 88 ps, type := ty, pos := pos, after := aft, guard := g } = !memN d H.arrs := by kernel_rfl
theorem fa88_0 (v : V) : vFieldAddr Tryz.prog 88 0 v = faddr 0 v := by kernel_rfl
theorem fg88_0 (s : St) (v : V) : vField Tryz.prog s 88 0 v = fget 0 1 false v := by kernel_rfl
theorem fa88_1 (v : V) : vFieldAddr Tryz.prog 88 1 v = faddr 1 v := by kernel_rfl
theorem fg88_1 (s : St) (v : V) : vField Tryz.prog s 88 1 v = fget 1 1 false v := by kernel_rfl
theorem fa88_2 (v : V) : vFieldAddr Tryz.prog 88 2 v = faddr 2 v := by kernel_rfl
theorem fg88_2 (s : St) (v : V) : vField Tryz.prog s 88 2 v = fget 2 1 false v := by kernel_rfl
theorem sz89 : szOf Tryz.prog 89 = 3 := by kernel_rfl
theorem ag89 : isAgg Tryz.prog 89 = true := by kernel_rfl
theorem ze89 : zero Tryz.prog 89 = some [V.int .i64 0, V.str ⟨#[]⟩, V.slc true 3 []] := by kernel_rfl
theorem la89 : layOf Tryz.prog 89 = some [(3, 0, 1), (9, 1, 1), (87, 2, 1)] := by kernel_rfl
theorem bd89 (H : Hint) (d : Nat) (ty : TypeId) (ps : Array (Nat × Operand)) (s : St) : evV Tryz.prog H d ty (.build 89 ps) s = aggO (buildL Tryz.prog [(3, 0, 1), (9, 1, 1), (87, 2, 1)] s [V.int .i64 0, V.str ⟨#[]⟩, V.slc true 3 []] ps.toList) := build_lay la89 ze89
theorem xb89 (H : Hint) (d : Nat) (ty : TypeId) (ps : Array (Nat × Operand)) (pos : String) (aft : Array Edge) (g : Option (Nat × Bool)) : isX Tryz.prog H { dst := some d, op := .build 89 ps, type := ty, pos := pos, after := aft, guard := g } = !memN d H.arrs := by kernel_rfl
theorem fa89_0 (v : V) : vFieldAddr Tryz.prog 89 0 v = faddr 0 v := by kernel_rfl
theorem fg89_0 (s : St) (v : V) : vField Tryz.prog s 89 0 v = fget 0 1 false v := by kernel_rfl
theorem fa89_1 (v : V) : vFieldAddr Tryz.prog 89 1 v = faddr 1 v := by kernel_rfl
theorem fg89_1 (s : St) (v : V) : vField Tryz.prog s 89 1 v = fget 1 1 false v := by kernel_rfl
theorem fa89_2 (v : V) : vFieldAddr Tryz.prog 89 2 v = faddr 2 v := by kernel_rfl
theorem fg89_2 (s : St) (v : V) : vField Tryz.prog s 89 2 v = fget 2 1 false v := by kernel_rfl
theorem sz90 : szOf Tryz.prog 90 = 8 := by kernel_rfl
theorem ag90 : isAgg Tryz.prog 90 = true := by kernel_rfl
theorem ze90 : zero Tryz.prog 90 = some [V.int .i64 0, V.str ⟨#[]⟩, V.str ⟨#[]⟩, V.str ⟨#[]⟩, V.str ⟨#[]⟩, V.int .i64 0, V.str ⟨#[]⟩, V.slc true 3 []] := by kernel_rfl
theorem la90 : layOf Tryz.prog 90 = some [(3, 0, 1), (9, 1, 1), (86, 2, 3), (89, 5, 3)] := by kernel_rfl
theorem bd90 (H : Hint) (d : Nat) (ty : TypeId) (ps : Array (Nat × Operand)) (s : St) : evV Tryz.prog H d ty (.build 90 ps) s = aggO (buildL Tryz.prog [(3, 0, 1), (9, 1, 1), (86, 2, 3), (89, 5, 3)] s [V.int .i64 0, V.str ⟨#[]⟩, V.str ⟨#[]⟩, V.str ⟨#[]⟩, V.str ⟨#[]⟩, V.int .i64 0, V.str ⟨#[]⟩, V.slc true 3 []] ps.toList) := build_lay la90 ze90
theorem xb90 (H : Hint) (d : Nat) (ty : TypeId) (ps : Array (Nat × Operand)) (pos : String) (aft : Array Edge) (g : Option (Nat × Bool)) : isX Tryz.prog H { dst := some d, op := .build 90 ps, type := ty, pos := pos, after := aft, guard := g } = !memN d H.arrs := by kernel_rfl
theorem fa90_0 (v : V) : vFieldAddr Tryz.prog 90 0 v = faddr 0 v := by kernel_rfl
theorem fg90_0 (s : St) (v : V) : vField Tryz.prog s 90 0 v = fget 0 1 false v := by kernel_rfl
theorem fa90_1 (v : V) : vFieldAddr Tryz.prog 90 1 v = faddr 1 v := by kernel_rfl
theorem fg90_1 (s : St) (v : V) : vField Tryz.prog s 90 1 v = fget 1 1 false v := by kernel_rfl
theorem fa90_2 (v : V) : vFieldAddr Tryz.prog 90 2 v = faddr 2 v := by kernel_rfl
theorem fg90_2 (s : St) (v : V) : vField Tryz.prog s 90 2 v = fget 2 3 true v := by kernel_rfl
theorem fa90_3 (v : V) : vFieldAddr Tryz.prog 90 3 v = faddr 5 v := by kernel_rfl
theorem fg90_3 (s : St) (v : V) : vField Tryz.prog s 90 3 v = fget 5 3 true v := by kernel_rfl
theorem sz91 : szOf Tryz.prog 91 = 8 := by kernel_rfl
theorem ag91 : isAgg Tryz.prog 91 = true := by kernel_rfl
theorem ze91 : zero Tryz.prog 91 = some [V.int .i64 0, V.str ⟨#[]⟩, V.str ⟨#[]⟩, V.str ⟨#[]⟩, V.str ⟨#[]⟩, V.int .i64 0, V.str ⟨#[]⟩, V.slc true 3 []] := by kernel_rfl
theorem la91 : layOf Tryz.prog 91 = some [(3, 0, 1), (9, 1, 1), (86, 2, 3), (89, 5, 3)] := by kernel_rfl
theorem bd91 (H : Hint) (d : Nat) (ty : TypeId) (ps : Array (Nat × Operand)) (s : St) : evV Tryz.prog H d ty (.build 91 ps) s = aggO (buildL Tryz.prog [(3, 0, 1), (9, 1, 1), (86, 2, 3), (89, 5, 3)] s [V.int .i64 0, V.str ⟨#[]⟩, V.str ⟨#[]⟩, V.str ⟨#[]⟩, V.str ⟨#[]⟩, V.int .i64 0, V.str ⟨#[]⟩, V.slc true 3 []] ps.toList) := build_lay la91 ze91
theorem xb91 (H : Hint) (d : Nat) (ty : TypeId) (ps : Array (Nat × Operand)) (pos : String) (aft : Array Edge) (g : Option (Nat × Bool)) : isX Tryz.prog H { dst := some d, op := .build 91 ps, type := ty, pos := pos, after := aft, guard := g } = !memN d H.arrs := by kernel_rfl
theorem fa91_0 (v : V) : vFieldAddr Tryz.prog 91 0 v = faddr 0 v := by kernel_rfl
theorem fg91_0 (s : St) (v : V) : vField Tryz.prog s 91 0 v = fget 0 1 false v := by kernel_rfl
theorem fa91_1 (v : V) : vFieldAddr Tryz.prog 91 1 v = faddr 1 v := by kernel_rfl
theorem fg91_1 (s : St) (v : V) : vField Tryz.prog s 91 1 v = fget 1 1 false v := by kernel_rfl
theorem fa91_2 (v : V) : vFieldAddr Tryz.prog 91 2 v = faddr 2 v := by kernel_rfl
theorem fg91_2 (s : St) (v : V) : vField Tryz.prog s 91 2 v = fget 2 3 true v := by kernel_rfl
theorem fa91_3 (v : V) : vFieldAddr Tryz.prog 91 3 v = faddr 5 v := by kernel_rfl
theorem fg91_3 (s : St) (v : V) : vField Tryz.prog s 91 3 v = fget 5 3 true v := by kernel_rfl
theorem sz92 : szOf Tryz.prog 92 = 1 := by kernel_rfl
theorem ag92 : isAgg Tryz.prog 92 = false := by kernel_rfl
theorem ze92 : zero Tryz.prog 92 = some [V.nilfn] := by kernel_rfl
theorem sz93 : szOf Tryz.prog 93 = 1 := by kernel_rfl
theorem ag93 : isAgg Tryz.prog 93 = false := by kernel_rfl
theorem ze93 : zero Tryz.prog 93 = some [V.nilfn] := by kernel_rfl
theorem sz94 : szOf Tryz.prog 94 = 1 := by kernel_rfl
theorem ag94 : isAgg Tryz.prog 94 = false := by kernel_rfl
theorem ze94 : zero Tryz.prog 94 = some [V.nilfn] := by kernel_rfl
theorem sz95 : szOf Tryz.prog 95 = 1 := by kernel_rfl
theorem ag95 : isAgg Tryz.prog 95 = false := by kernel_rfl
theorem ze95 : zero Tryz.prog 95 = some [V.nilfn] := by kernel_rfl
theorem sz96 : szOf Tryz.prog 96 = 1 := by kernel_rfl
theorem ag96 : isAgg Tryz.prog 96 = false := by kernel_rfl
theorem ze96 : zero Tryz.prog 96 = some [V.nilfn] := by kernel_rfl
theorem sz97 : szOf Tryz.prog 97 = 1 := by kernel_rfl
theorem ag97 : isAgg Tryz.prog 97 = false := by kernel_rfl
theorem ze97 : zero Tryz.prog 97 = some [V.nilfn] := by kernel_rfl
theorem sz98 : szOf Tryz.prog 98 = 1 := by kernel_rfl
theorem ag98 : isAgg Tryz.prog 98 = false := by kernel_rfl
theorem ze98 : zero Tryz.prog 98 = some [V.nilfn] := by kernel_rfl
theorem sz99 : szOf Tryz.prog 99 = 1 := by kernel_rfl
theorem ag99 : isAgg Tryz.prog 99 = false := by kernel_rfl
theorem ze99 : zero Tryz.prog 99 = some [V.nilfn] := by kernel_rfl
theorem sz100 : szOf Tryz.prog 100 = 1 := by kernel_rfl
theorem ag100 : isAgg Tryz.prog 100 = false := by kernel_rfl
theorem ze100 : zero Tryz.prog 100 = some [V.nilfn] := by kernel_rfl
theorem sz101 : szOf Tryz.prog 101 = 1 := by kernel_rfl
theorem ag101 : isAgg Tryz.prog 101 = false := by kernel_rfl
theorem ze101 : zero Tryz.prog 101 = some [V.nilfn] := by kernel_rfl
theorem sz102 : szOf Tryz.prog 102 = 1 := by kernel_rfl
theorem ag102 : isAgg Tryz.prog 102 = false := by kernel_rfl
theorem ze102 : zero Tryz.prog 102 = some [V.nilfn] := by kernel_rfl
theorem sz103 : szOf Tryz.prog 103 = 1 := by kernel_rfl
theorem ag103 : isAgg Tryz.prog 103 = false := by kernel_rfl
theorem ze103 : zero Tryz.prog 103 = some [V.nilfn] := by kernel_rfl
theorem sz104 : szOf Tryz.prog 104 = 1 := by kernel_rfl
theorem ag104 : isAgg Tryz.prog 104 = false := by kernel_rfl
theorem ze104 : zero Tryz.prog 104 = some [V.nilfn] := by kernel_rfl
theorem sz105 : szOf Tryz.prog 105 = 1 := by kernel_rfl
theorem ag105 : isAgg Tryz.prog 105 = false := by kernel_rfl
theorem ze105 : zero Tryz.prog 105 = some [V.nilfn] := by kernel_rfl
theorem sz106 : szOf Tryz.prog 106 = 1 := by kernel_rfl
theorem ag106 : isAgg Tryz.prog 106 = false := by kernel_rfl
theorem ze106 : zero Tryz.prog 106 = some [V.nilfn] := by kernel_rfl
theorem sz107 : szOf Tryz.prog 107 = 1 := by kernel_rfl
theorem ag107 : isAgg Tryz.prog 107 = false := by kernel_rfl
theorem ze107 : zero Tryz.prog 107 = some [V.nilfn] := by kernel_rfl
theorem sz108 : szOf Tryz.prog 108 = 1 := by kernel_rfl
theorem ag108 : isAgg Tryz.prog 108 = false := by kernel_rfl
theorem ze108 : zero Tryz.prog 108 = some [V.nilfn] := by kernel_rfl
theorem sz109 : szOf Tryz.prog 109 = 1 := by kernel_rfl
theorem ag109 : isAgg Tryz.prog 109 = false := by kernel_rfl
theorem ze109 : zero Tryz.prog 109 = some [V.nilfn] := by kernel_rfl
theorem sz111 : szOf Tryz.prog 111 = 1 := by kernel_rfl
theorem ag111 : isAgg Tryz.prog 111 = false := by kernel_rfl
theorem ze111 : zero Tryz.prog 111 = some [V.nilfn] := by kernel_rfl
theorem sz112 : szOf Tryz.prog 112 = 1 := by kernel_rfl
theorem ag112 : isAgg Tryz.prog 112 = false := by kernel_rfl
theorem ze112 : zero Tryz.prog 112 = some [V.nilfn] := by kernel_rfl
theorem sz113 : szOf Tryz.prog 113 = 1 := by kernel_rfl
theorem ag113 : isAgg Tryz.prog 113 = false := by kernel_rfl
theorem ze113 : zero Tryz.prog 113 = some [V.nilfn] := by kernel_rfl
theorem sz114 : szOf Tryz.prog 114 = 1 := by kernel_rfl
theorem ag114 : isAgg Tryz.prog 114 = false := by kernel_rfl
theorem ze114 : zero Tryz.prog 114 = some [V.nilfn] := by kernel_rfl
theorem sz115 : szOf Tryz.prog 115 = 1 := by kernel_rfl
theorem ag115 : isAgg Tryz.prog 115 = false := by kernel_rfl
theorem ze115 : zero Tryz.prog 115 = some [V.nilfn] := by kernel_rfl
theorem sz116 : szOf Tryz.prog 116 = 1 := by kernel_rfl
theorem ag116 : isAgg Tryz.prog 116 = false := by kernel_rfl
theorem ze116 : zero Tryz.prog 116 = some [V.nilfn] := by kernel_rfl
theorem u117 : Tryz.prog.underlying 117 = some (.slice 123) := by kernel_rfl
theorem sz117 : szOf Tryz.prog 117 = 1 := by kernel_rfl
theorem ag117 : isAgg Tryz.prog 117 = false := by kernel_rfl
theorem eo117 : elemOf Tryz.prog 117 = 123 := by kernel_rfl
theorem es117 : elemSz Tryz.prog 117 = 6 := by kernel_rfl
theorem gr117 : growB Tryz.prog 117 = true := by kernel_rfl
theorem df117 : dflt Tryz.prog 117 = V.agg [V.str ⟨#[]⟩, V.str ⟨#[]⟩, V.slc false 1 [], V.int .i64 0, V.int .u8 0, V.str ⟨#[]⟩] := by kernel_rfl
theorem ze117 : zero Tryz.prog 117 = some [V.slc true 6 []] := by kernel_rfl
theorem sz118 : szOf Tryz.prog 118 = 3 := by kernel_rfl
theorem ag118 : isAgg Tryz.prog 118 = true := by kernel_rfl
theorem ze118 : zero Tryz.prog 118 = some [V.str ⟨#[]⟩, V.str ⟨#[]⟩, V.slc true 1 []] := by kernel_rfl
theorem la118 : layOf Tryz.prog 118 = some [(9, 0, 1), (9, 1, 1), (49, 2, 1)] := by kernel_rfl
theorem bd118 (H : Hint) (d : Nat) (ty : TypeId) (ps : Array (Nat × Operand)) (s : St) : evV Tryz.prog H d ty (.build 118 ps) s = aggO (buildL Tryz.prog [(9, 0, 1), (9, 1, 1), (49, 2, 1)] s [V.str ⟨#[]⟩, V.str ⟨#[]⟩, V.slc true 1 []] ps.toList) := build_lay la118 ze118
theorem xb118 (H : Hint) (d : Nat) (ty : TypeId) (ps : Array (Nat × Operand)) (pos : String) (aft : Array Edge) (g : Option (Nat × Bool)) : isX Tryz.prog H { dst := some d, op := .build 118 ps, type := ty, pos := pos, after := aft, guard := g } = !memN d H.arrs := by kernel_rfl
theorem fa118_0 (v : V) : vFieldAddr Tryz.prog 118 0 v = faddr 0 v := by kernel_rfl
theorem fg118_0 (s : St) (v : V) : vField Tryz.prog s 118 0 v = fget 0 1 false v := by kernel_rfl
theorem fa118_1 (v : V) : vFieldAddr Tryz.prog 118 1 v = faddr 1 v := by kernel_rfl
theorem fg118_1 (s : St) (v : V) : vField Tryz.prog s 118 1 v = fget 1 1 false v := by kernel_rfl
theorem fa118_2 (v : V) : vFieldAddr Tryz.prog 118 2 v = faddr 2 v := by kernel_rfl
theorem fg118_2 (s : St) (v : V) : vField Tryz.prog s 118 2 v = fget 2 1 false v := by kernel_rfl
theorem sz119 : szOf Tryz.prog 119 = 3 := by kernel_rfl
theorem ag119 : isAgg Tryz.prog 119 = true := by kernel_rfl
theorem ze119 : zero Tryz.prog 119 = some [V.str ⟨#[]⟩, V.str ⟨#[]⟩, V.slc true 1 []] := by kernel_rfl
theorem la119 : layOf Tryz.prog 119 = some [(9, 0, 1), (9, 1, 1), (49, 2, 1)] := by kernel_rfl
theorem bd119 (H : Hint) (d : Nat) (ty : TypeId) (ps : Array (Nat × Operand)) (s : St) : evV Tryz.prog H d ty (.build 119 ps) s = aggO (buildL Tryz.prog [(9, 0, 1), (9, 1, 1), (49, 2, 1)] s [V.str ⟨#[]⟩, V.str ⟨#[]⟩, V.slc true 1 []] ps.toList) := build_lay la119 ze119
theorem xb119 (H : Hint) (d : Nat) (ty : TypeId) (ps : Array (Nat × Operand)) (pos : String) (aft : Array Edge) (g : Option (Nat × Bool)) : isX Tryz.prog H { dst := some d, op := .build 119 ps, type := ty, pos := pos, after := aft, guard := g } = !memN d H.arrs := by kernel_rfl
theorem fa119_0 (v : V) : vFieldAddr Tryz.prog 119 0 v = faddr 0 v := by kernel_rfl
theorem fg119_0 (s : St) (v : V) : vField Tryz.prog s 119 0 v = fget 0 1 false v := by kernel_rfl
theorem fa119_1 (v : V) : vFieldAddr Tryz.prog 119 1 v = faddr 1 v := by kernel_rfl
theorem fg119_1 (s : St) (v : V) : vField Tryz.prog s 119 1 v = fget 1 1 false v := by kernel_rfl
theorem fa119_2 (v : V) : vFieldAddr Tryz.prog 119 2 v = faddr 2 v := by kernel_rfl
theorem fg119_2 (s : St) (v : V) : vField Tryz.prog s 119 2 v = fget 2 1 false v := by kernel_rfl
theorem sz120 : szOf Tryz.prog 120 = 2 := by kernel_rfl
theorem ag120 : isAgg Tryz.prog 120 = true := by kernel_rfl
theorem ze120 : zero Tryz.prog 120 = some [V.int .u8 0, V.str ⟨#[]⟩] := by kernel_rfl
theorem la120 : layOf Tryz.prog 120 = some [(5, 0, 1), (9, 1, 1)] := by kernel_rfl
theorem bd120 (H : Hint) (d : Nat) (ty : TypeId) (ps : Array (Nat × Operand)) (s : St) : evV Tryz.prog H d ty (.build 120 ps) s = aggO (buildL Tryz.prog [(5, 0, 1), (9, 1, 1)] s [V.int .u8 0, V.str ⟨#[]⟩] ps.toList) := build_lay la120 ze120
theorem xb120 (H : Hint) (d : Nat) (ty : TypeId) (ps : Array (Nat × Operand)) (pos : String) (aft : Array Edge) (g : Option (Nat × Bool)) : isX Tryz.prog H { dst := some d, op := .build 120 ps, type := ty, pos := pos, after := aft, guard := g } = !memN d H.arrs := by kernel_rfl
theorem fa120_0 (v : V) : vFieldAddr Tryz.prog 120 0 v = faddr 0 v := by kernel_rfl
theorem fg120_0 (s : St) (v : V) : vField Tryz.prog s 120 0 v = fget 0 1 false v := by kernel_rfl
theorem fa120_1 (v : V) : vFieldAddr Tryz.prog 120 1 v = faddr 1 v := by kernel_rfl
theorem fg120_1 (s : St) (v : V) : vField Tryz.prog s 120 1 v = fget 1 1 false v := by kernel_rfl
theorem sz121 : szOf Tryz.prog 121 = 2 := by kernel_rfl
theorem ag121 : isAgg Tryz.prog 121 = true := by kernel_rfl
theorem ze121 : zero Tryz.prog 121 = some [V.int .u8 0, V.str ⟨#[]⟩] := by kernel_rfl
theorem la121 : layOf Tryz.prog 121 = some [(5, 0, 1), (9, 1, 1)] := by kernel_rfl
theorem bd121 (H : Hint) (d : Nat) (ty : TypeId) (ps : Array (Nat × Operand)) (s : St) : evV Tryz.prog H d ty (.build 121 ps) s = aggO (buildL Tryz.prog [(5, 0, 1), (9, 1, 1)] s [V.int .u8 0, V.str ⟨#[]⟩] ps.toList) := build_lay la121 ze121
theorem xb121 (H : Hint) (d : Nat) (ty : TypeId) (ps : Array (Nat × Operand)) (pos : String) (aft : Array Edge) (g : Option (Nat × Bool)) : isX Tryz.prog H { dst := some d, op := .build 121 ps, type := ty, pos := pos, after := aft, guard := g } = !memN d H.arrs := by kernel_rfl
theorem fa121_0 (v : V) : vFieldAddr Tryz.prog 121 0 v = faddr 0 v := by kernel_rfl
theorem fg121_0 (s : St) (v : V) : vField Tryz.prog s 121 0 v = fget 0 1 false v := by kernel_rfl
theorem fa121_1 (v : V) : vFieldAddr Tryz.prog 121 1 v = faddr 1 v := by kernel_rfl
theorem fg121_1 (s : St) (v : V) : vField Tryz.prog s 121 1 v = fget 1 1 false v := by kernel_rfl
theorem ev121 (x0 y0 : Int) (x1 y1 : ByteArray) : eqV Tryz.prog 121 (.agg [V.int .u8 x0, V.str x1]) (.agg [V.int .u8 y0, V.str y1]) = some ((x0 == y0) && ((x1.toList == y1.toList) && true)) := by kernel_rfl
theorem eg121 : Tryz.prog.eqGuardType Tryz.prog.depth 121 = false := by kernel_rfl
theorem sz122 : szOf Tryz.prog 122 = 6 := by kernel_rfl
theorem ag122 : isAgg Tryz.prog 122 = true := by kernel_rfl
theorem ze122 : zero Tryz.prog 122 = some [V.str ⟨#[]⟩, V.str ⟨#[]⟩, V.slc true 1 [], V.int .i64 0, V.int .u8 0, V.str ⟨#[]⟩] := by kernel_rfl
theorem la122 : layOf Tryz.prog 122 = some [(119, 0, 3), (3, 3, 1), (121, 4, 2)] := by kernel_rfl
theorem bd122 (H : Hint) (d : Nat) (ty : TypeId) (ps : Array (Nat × Operand)) (s : St) : evV Tryz.prog H d ty (.build 122 ps) s = aggO (buildL Tryz.prog [(119, 0, 3), (3, 3, 1), (121, 4, 2)] s [V.str ⟨#[]⟩, V.str ⟨#[]⟩, V.slc true 1 [], V.int .i64 0, V.int .u8 0, V.str ⟨#[]⟩] ps.toList) := build_lay la122 ze122
theorem xb122 (H : Hint) (d : Nat) (ty : TypeId) (ps : Array (Nat × Operand)) (pos : String) (aft : Array Edge) (g : Option (Nat × Bool)) : isX Tryz.prog H { dst := some d, op := .build 122 ps, type := ty, pos := pos, after := aft, guard := g } = !memN d H.arrs := by kernel_rfl
theorem fa122_0 (v : V) : vFieldAddr Tryz.prog 122 0 v = faddr 0 v := by kernel_rfl
theorem fg122_0 (s : St) (v : V) : vField Tryz.prog s 122 0 v = fget 0 3 true v := by kernel_rfl
theorem fa122_1 (v : V) : vFieldAddr Tryz.prog 122 1 v = faddr 3 v := by kernel_rfl
theorem fg122_1 (s : St) (v : V) : vField Tryz.prog s 122 1 v = fget 3 1 false v := by kernel_rfl
theorem fa122_2 (v : V) : vFieldAddr Tryz.prog 122 2 v = faddr 4 v := by kernel_rfl
theorem fg122_2 (s : St) (v : V) : vField Tryz.prog s 122 2 v = fget 4 2 true v := by kernel_rfl
theorem sz123 : szOf Tryz.prog 123 = 6 := by kernel_rfl
theorem ag123 : isAgg Tryz.prog 123 = true := by kernel_rfl
theorem ze123 : zero Tryz.prog 123 = some [V.str ⟨#[]⟩, V.str ⟨#[]⟩, V.slc true 1 [], V.int .i64 0, V.int .u8 0, V.str ⟨#[]⟩] := by kernel_rfl
theorem la123 : layOf Tryz.prog 123 = some [(119, 0, 3), (3, 3, 1), (121, 4, 2)] := by kernel_rfl
theorem bd123 (H : Hint) (d : Nat) (ty : TypeId) (ps : Array (Nat × Operand)) (s : St) : evV Tryz.prog H d ty (.build 123 ps) s = aggO (buildL Tryz.prog [(119, 0, 3), (3, 3, 1), (121, 4, 2)] s [V.str ⟨#[]⟩, V.str ⟨#[]⟩, V.slc true 1 [], V.int .i64 0, V.int .u8 0, V.str ⟨#[]⟩] ps.toList) := build_lay la123 ze123
theorem xb123 (H : Hint) (d : Nat) (ty : TypeId) (ps : Array (Nat × Operand)) (pos : String) (aft : Array Edge) (g : Option (Nat × Bool)) : isX Tryz.prog H { dst := some d, op := .build 123 ps, type := ty, pos := pos, after := aft, guard := g } = !memN d H.arrs := by kernel_rfl
theorem fa123_0 (v : V) : vFieldAddr Tryz.prog 123 0 v = faddr 0 v := by kernel_rfl
theorem fg123_0 (s : St) (v : V) : vField Tryz.prog s 123 0 v = fget 0 3 true v := by kernel_rfl
theorem fa123_1 (v : V) : vFieldAddr Tryz.prog 123 1 v = faddr 3 v := by kernel_rfl
theorem fg123_1 (s : St) (v : V) : vField Tryz.prog s 123 1 v = fget 3 1 false v := by kernel_rfl
theorem fa123_2 (v : V) : vFieldAddr Tryz.prog 123 2 v = faddr 4 v := by kernel_rfl
theorem fg123_2 (s : St) (v : V) : vField Tryz.prog s 123 2 v = fget 4 2 true v := by kernel_rfl
theorem sz125 : szOf Tryz.prog 125 = 1 := by kernel_rfl
theorem ag125 : isAgg Tryz.prog 125 = false := by kernel_rfl
theorem ze125 : zero Tryz.prog 125 = some [V.nilfn] := by kernel_rfl
theorem sz127 : szOf Tryz.prog 127 = 1 := by kernel_rfl
theorem ag127 : isAgg Tryz.prog 127 = false := by kernel_rfl
theorem ze127 : zero Tryz.prog 127 = some [V.nilfn] := by kernel_rfl
theorem sz128 : szOf Tryz.prog 128 = 1 := by kernel_rfl
theorem ag128 : isAgg Tryz.prog 128 = false := by kernel_rfl
theorem ze128 : zero Tryz.prog 128 = some [V.nilfn] := by kernel_rfl
theorem sz129 : szOf Tryz.prog 129 = 1 := by kernel_rfl
theorem ag129 : isAgg Tryz.prog 129 = false := by kernel_rfl
theorem ze129 : zero Tryz.prog 129 = some [V.nilfn] := by kernel_rfl
theorem sz130 : szOf Tryz.prog 130 = 1 := by kernel_rfl
theorem ag130 : isAgg Tryz.prog 130 = false := by kernel_rfl
theorem ze130 : zero Tryz.prog 130 = some [V.nilfn] := by kernel_rfl
theorem u131 : Tryz.prog.underlying 131 = some (.slice 133) := by kernel_rfl
theorem sz131 : szOf Tryz.prog 131 = 1 := by kernel_rfl
theorem ag131 : isAgg Tryz.prog 131 = false := by kernel_rfl
theorem eo131 : elemOf Tryz.prog 131 = 133 := by kernel_rfl
theorem es131 : elemSz Tryz.prog 131 = 3 := by kernel_rfl
theorem gr131 : growB Tryz.prog 131 = true := by kernel_rfl
theorem df131 : dflt Tryz.prog 131 = V.agg [V.int .i64 0, V.int .u8 0, V.str ⟨#[]⟩] := by kernel_rfl
theorem ze131 : zero Tryz.prog 131 = some [V.slc true 3 []] := by kernel_rfl
theorem sz132 : szOf Tryz.prog 132 = 3 := by kernel_rfl
theorem ag132 : isAgg Tryz.prog 132 = true := by kernel_rfl
theorem ze132 : zero Tryz.prog 132 = some [V.int .i64 0, V.int .u8 0, V.str ⟨#[]⟩] := by kernel_rfl
theorem la132 : layOf Tryz.prog 132 = some [(3, 0, 1), (121, 1, 2)] := by kernel_rfl
theorem bd132 (H : Hint) (d : Nat) (ty : TypeId) (ps : Array (Nat × Operand)) (s : St) : evV Tryz.prog H d ty (.build 132 ps) s = aggO (buildL Tryz.prog [(3, 0, 1), (121, 1, 2)] s [V.int .i64 0, V.int .u8 0, V.str ⟨#[]⟩] ps.toList) := build_lay la132 ze132
theorem xb132 (H : Hint) (d : Nat) (ty : TypeId) (ps : Array (Nat × Operand)) (pos : String) (aft : Array Edge) (g : Option (Nat × Bool)) : isX Tryz.prog H { dst := some d, op := .build 132 ps, type := ty, pos := pos, after := aft, guard := g } = !memN d H.arrs := by kernel_rfl
theorem fa132_0 (v : V) : vFieldAddr Tryz.prog 132 0 v = faddr 0 v := by kernel_rfl
theorem fg132_0 (s : St) (v : V) : vField Tryz.prog s 132 0 v = fget 0 1 false v := by kernel_rfl
theorem fa132_1 (v : V) : vFieldAddr Tryz.prog 132 1 v = faddr 1 v := by kernel_rfl
theorem fg132_1 (s : St) (v : V) : vField Tryz.prog s 132 1 v = fget 1 2 true v := by kernel_rfl
theorem sz133 : szOf Tryz.prog 133 = 3 := by kernel_rfl
theorem ag133 : isAgg Tryz.prog 133 = true := by kernel_rfl
theorem ze133 : zero Tryz.prog 133 = some [V.int .i64 0, V.int .u8 0, V.str ⟨#[]⟩] := by kernel_rfl
theorem la133 : layOf Tryz.prog 133 = some [(3, 0, 1), (121, 1, 2)] := by kernel_rfl
theorem bd133 (H : Hint) (d : Nat) (ty : TypeId) (ps : Array (Nat × Operand)) (s : St) : evV Tryz.prog H d ty (.build 133 ps) s = aggO (buildL Tryz.prog [(3, 0, 1), (121, 1, 2)] s [V.int .i64 0, V.int .u8 0, V.str ⟨#[]⟩] ps.toList) := build_lay la133 ze133
theorem xb133 (H : Hint) (d : Nat) (ty : TypeId) (ps : Array (Nat × Operand)) (pos : String) (aft : Array Edge) (g : Option (Nat × Bool)) : isX Tryz.prog H { dst := some d, op := .build 133 ps, type := ty, pos := pos, after := aft, guard := g } = !memN d H.arrs := by kernel_rfl
theorem fa133_0 (v : V) : vFieldAddr Tryz.prog 133 0 v = faddr 0 v := by kernel_rfl
theorem fg133_0 (s : St) (v : V) : vField Tryz.prog s 133 0 v = fget 0 1 false v := by kernel_rfl
theorem fa133_1 (v : V) : vFieldAddr Tryz.prog 133 1 v = faddr 1 v := by kernel_rfl
theorem fg133_1 (s : St) (v : V) : vField Tryz.prog s 133 1 v = fget 1 2 true v := by kernel_rfl
theorem sz134 : szOf Tryz.prog 134 = 1 := by kernel_rfl
theorem ag134 : isAgg Tryz.prog 134 = false := by kernel_rfl
theorem ze134 : zero Tryz.prog 134 = some [V.nilfn] := by kernel_rfl
theorem sz135 : szOf Tryz.prog 135 = 1 := by kernel_rfl
theorem ag135 : isAgg Tryz.prog 135 = false := by kernel_rfl
theorem ze135 : zero Tryz.prog 135 = some [V.nilfn] := by kernel_rfl
theorem u136 : Tryz.prog.underlying 136 = some (.slice 139) := by kernel_rfl
theorem sz136 : szOf Tryz.prog 136 = 1 := by kernel_rfl
theorem ag136 : isAgg Tryz.prog 136 = false := by kernel_rfl
theorem eo136 : elemOf Tryz.prog 136 = 139 := by kernel_rfl
theorem es136 : elemSz Tryz.prog 136 = 5 := by kernel_rfl
theorem gr136 : growB Tryz.prog 136 = true := by kernel_rfl
theorem df136 : dflt Tryz.prog 136 = V.agg [V.int .u8 0, V.str ⟨#[]⟩, V.str ⟨#[]⟩, V.str ⟨#[]⟩, V.slc false 1 []] := by kernel_rfl
theorem ze136 : zero Tryz.prog 136 = some [V.slc true 5 []] := by kernel_rfl
theorem sz137 : szOf Tryz.prog 137 = 1 := by kernel_rfl
theorem ag137 : isAgg Tryz.prog 137 = false := by kernel_rfl
theorem ze137 : zero Tryz.prog 137 = some [V.nilfn] := by kernel_rfl
theorem sz138 : szOf Tryz.prog 138 = 5 := by kernel_rfl
theorem ag138 : isAgg Tryz.prog 138 = true := by kernel_rfl
theorem ze138 : zero Tryz.prog 138 = some [V.int .u8 0, V.str ⟨#[]⟩, V.str ⟨#[]⟩, V.str ⟨#[]⟩, V.slc true 1 []] := by kernel_rfl
theorem la138 : layOf Tryz.prog 138 = some [(121, 0, 2), (119, 2, 3)] := by kernel_rfl
theorem bd138 (H : Hint) (d : Nat) (ty : TypeId) (ps : Array (Nat × Operand)) (s : St) : evV Tryz.prog H d ty (.build 138 ps) s = aggO (buildL Tryz.prog [(121, 0, 2), (119, 2, 3)] s [V.int .u8 0, V.str ⟨#[]⟩, V.str ⟨#[]⟩, V.str ⟨#[]⟩, V.slc true 1 []] ps.toList) := build_lay la138 ze138
theorem xb138 (H : Hint) (d : Nat) (ty : TypeId) (ps : Array (Nat × Operand)) (pos : String) (aft : Array Edge) (g : Option (Nat × Bool)) : isX Tryz.prog H { dst := some d, op := .build 138 ps, type := ty, pos := pos, after := aft, guard := g } = !memN d H.arrs := by kernel_rfl
theorem fa138_0 (v : V) : vFieldAddr Tryz.prog 138 0 v = faddr 0 v := by kernel_rfl
theorem fg138_0 (s : St) (v : V) : vField Tryz.prog s 138 0 v = fget 0 2 true v := by kernel_rfl
theorem fa138_1 (v : V) : vFieldAddr Tryz.prog 138 1 v = faddr 2 v := by kernel_rfl
theorem fg138_1 (s : St) (v : V) : vField Tryz.prog s 138 1 v = fget 2 3 true v := by kernel_rfl
theorem sz139 : szOf Tryz.prog 139 = 5 := by kernel_rfl
theorem ag139 : isAgg Tryz.prog 139 = true := by kernel_rfl
theorem ze139 : zero Tryz.prog 139 = some [V.int .u8 0, V.str ⟨#[]⟩, V.str ⟨#[]⟩, V.str ⟨#[]⟩, V.slc true 1 []] := by kernel_rfl
theorem la139 : layOf Tryz.prog 139 = some [(121, 0, 2), (119, 2, 3)] := by kernel_rfl
theorem bd139 (H : Hint) (d : Nat) (ty : TypeId) (ps : Array (Nat × Operand)) (s : St) : evV Tryz.prog H d ty (.build 139 ps) s = aggO (buildL Tryz.prog [(121, 0, 2), (119, 2, 3)] s [V.int .u8 0, V.str ⟨#[]⟩, V.str ⟨#[]⟩, V.str ⟨#[]⟩, V.slc true 1 []] ps.toList) := build_lay la139 ze139
theorem xb139 (H : Hint) (d : Nat) (ty : TypeId) (ps : Array (Nat × Operand)) (pos : String) (aft : Array Edge) (g : Option (Nat × Bool)) : isX Tryz.prog H { dst := some d, op := .build 139 ps, type := ty, pos := pos, after := aft, guard := g } = !memN d H.arrs := by kernel_rfl
theorem fa139_0 (v : V) : vFieldAddr Tryz.prog 139 0 v = faddr 0 v := by kernel_rfl
theorem fg139_0 (s : St) (v : V) : vField Tryz.prog s 139 0 v = fget 0 2 true v := by kernel_rfl
theorem fa139_1 (v : V) : vFieldAddr Tryz.prog 139 1 v = faddr 2 v := by kernel_rfl
theorem fg139_1 (s : St) (v : V) : vField Tryz.prog s 139 1 v = fget 2 3 true v := by kernel_rfl
theorem sz140 : szOf Tryz.prog 140 = 1 := by kernel_rfl
theorem ag140 : isAgg Tryz.prog 140 = false := by kernel_rfl
theorem ze140 : zero Tryz.prog 140 = some [V.nilfn] := by kernel_rfl
theorem sz141 : szOf Tryz.prog 141 = 1 := by kernel_rfl
theorem ag141 : isAgg Tryz.prog 141 = false := by kernel_rfl
theorem ze141 : zero Tryz.prog 141 = some [V.nilfn] := by kernel_rfl
theorem sz142 : szOf Tryz.prog 142 = 1 := by kernel_rfl
theorem ag142 : isAgg Tryz.prog 142 = false := by kernel_rfl
theorem ze142 : zero Tryz.prog 142 = some [V.nilfn] := by kernel_rfl
theorem sz143 : szOf Tryz.prog 143 = 1 := by kernel_rfl
theorem ag143 : isAgg Tryz.prog 143 = false := by kernel_rfl
theorem ze143 : zero Tryz.prog 143 = some [V.nilfn] := by kernel_rfl
theorem sz144 : szOf Tryz.prog 144 = 1 := by kernel_rfl
theorem ag144 : isAgg Tryz.prog 144 = false := by kernel_rfl
theorem ze144 : zero Tryz.prog 144 = some [V.nilfn] := by kernel_rfl
theorem sz145 : szOf Tryz.prog 145 = 1 := by kernel_rfl
theorem ag145 : isAgg Tryz.prog 145 = false := by kernel_rfl
theorem ze145 : zero Tryz.prog 145 = some [V.nilfn] := by kernel_rfl
theorem sz146 : szOf Tryz.prog 146 = 1 := by kernel_rfl
theorem ag146 : isAgg Tryz.prog 146 = false := by kernel_rfl
theorem ze146 : zero Tryz.prog 146 = some [V.nilfn] := by kernel_rfl
theorem sz147 : szOf Tryz.prog 147 = 1 := by kernel_rfl
theorem ag147 : isAgg Tryz.prog 147 = false := by kernel_rfl
theorem ze147 : zero Tryz.prog 147 = some [V.nilfn] := by kernel_rfl
theorem sz148 : szOf Tryz.prog 148 = 8 := by kernel_rfl
theorem ag148 : isAgg Tryz.prog 148 = true := by kernel_rfl
theorem ze148 : zero Tryz.prog 148 = some [V.int .i64 0, V.str ⟨#[]⟩, V.str ⟨#[]⟩, V.int .i64 0, V.str ⟨#[]⟩, V.slc true 3 [], V.slc true 1 [], V.int .i64 0] := by kernel_rfl
theorem la148 : layOf Tryz.prog 148 = some [(3, 0, 1), (9, 1, 1), (9, 2, 1), (89, 3, 3), (49, 6, 1), (3, 7, 1)] := by kernel_rfl
theorem bd148 (H : Hint) (d : Nat) (ty : TypeId) (ps : Array (Nat × Operand)) (s : St) : evV Tryz.prog H d ty (.build 148 ps) s = aggO (buildL Tryz.prog [(3, 0, 1), (9, 1, 1), (9, 2, 1), (89, 3, 3), (49, 6, 1), (3, 7, 1)] s [V.int .i64 0, V.str ⟨#[]⟩, V.str ⟨#[]⟩, V.int .i64 0, V.str ⟨#[]⟩, V.slc true 3 [], V.slc true 1 [], V.int .i64 0] ps.toList) := build_lay la148 ze148
theorem xb148 (H : Hint) (d : Nat) (ty : TypeId) (ps : Array (Nat × Operand)) (pos : String) (aft : Array Edge) (g : Option (Nat × Bool)) : isX Tryz.prog H { dst := some d, op := .build 148 ps, type := ty, pos := pos, after := aft, guard := g } = !memN d H.arrs := by kernel_rfl
theorem fa148_0 (v : V) : vFieldAddr Tryz.prog 148 0 v = faddr 0 v := by kernel_rfl
theorem fg148_0 (s : St) (v : V) : vField Tryz.prog s 148 0 v = fget 0 1 false v := by kernel_rfl
theorem fa148_1 (v : V) : vFieldAddr Tryz.prog 148 1 v = faddr 1 v := by kernel_rfl
theorem fg148_1 (s : St) (v : V) : vField Tryz.prog s 148 1 v = fget 1 1 false v := by kernel_rfl
theorem fa148_2 (v : V) : vFieldAddr Tryz.prog 148 2 v = faddr 2 v := by kernel_rfl
theorem fg148_2 (s : St) (v : V) : vField Tryz.prog s 148 2 v = fget 2 1 false v := by kernel_rfl
theorem fa148_3 (v : V) : vFieldAddr Tryz.prog 148 3 v = faddr 3 v := by kernel_rfl
theorem fg148_3 (s : St) (v : V) : vField Tryz.prog s 148 3 v = fget 3 3 true v := by kernel_rfl
theorem fa148_4 (v : V) : vFieldAddr Tryz.prog 148 4 v = faddr 6 v := by kernel_rfl
theorem fg148_4 (s : St) (v : V) : vField Tryz.prog s 148 4 v = fget 6 1 false v := by kernel_rfl
theorem fa148_5 (v : V) : vFieldAddr Tryz.prog 148 5 v = faddr 7 v := by kernel_rfl
theorem fg148_5 (s : St) (v : V) : vField Tryz.prog s 148 5 v = fget 7 1 false v := by kernel_rfl
theorem sz149 : szOf Tryz.prog 149 = 8 := by kernel_rfl
theorem ag149 : isAgg Tryz.prog 149 = true := by kernel_rfl
theorem ze149 : zero Tryz.prog 149 = some [V.int .i64 0, V.str ⟨#[]⟩, V.str ⟨#[]⟩, V.int .i64 0, V.str ⟨#[]⟩, V.slc true 3 [], V.slc true 1 [], V.int .i64 0] := by kernel_rfl
theorem la149 : layOf Tryz.prog 149 = some [(3, 0, 1), (9, 1, 1), (9, 2, 1), (89, 3, 3), (49, 6, 1), (3, 7, 1)] := by kernel_rfl
theorem bd149 (H : Hint) (d : Nat) (ty : TypeId) (ps : Array (Nat × Operand)) (s : St) : evV Tryz.prog H d ty (.build 149 ps) s = aggO (buildL Tryz.prog [(3, 0, 1), (9, 1, 1), (9, 2, 1), (89, 3, 3), (49, 6, 1), (3, 7, 1)] s [V.int .i64 0, V.str ⟨#[]⟩, V.str ⟨#[]⟩, V.int .i64 0, V.str ⟨#[]⟩, V.slc true 3 [], V.slc true 1 [], V.int .i64 0] ps.toList) := build_lay la149 ze149
theorem xb149 (H : Hint) (d : Nat) (ty : TypeId) (ps : Array (Nat × Operand)) (pos : String) (aft : Array Edge) (g : Option (Nat × Bool)) : isX Tryz.prog H { dst := some d, op := .build 149 ps, type := ty, pos := pos, after := aft, guard := g } = !memN d H.arrs := by kernel_rfl
theorem fa149_0 (v : V) : vFieldAddr Tryz.prog 149 0 v = faddr 0 v := by kernel_rfl
theorem fg149_0 (s : St) (v : V) : vField Tryz.prog s 149 0 v = fget 0 1 false v := by kernel_rfl
theorem fa149_1 (v : V) : vFieldAddr Tryz.prog 149 1 v = faddr 1 v := by kernel_rfl
theorem fg149_1 (s : St) (v : V) : vField Tryz.prog s 149 1 v = fget 1 1 false v := by kernel_rfl
theorem fa149_2 (v : V) : vFieldAddr Tryz.prog 149 2 v = faddr 2 v := by kernel_rfl
theorem fg149_2 (s : St) (v : V) : vField Tryz.prog s 149 2 v = fget 2 1 false v := by kernel_rfl
theorem fa149_3 (v : V) : vFieldAddr Tryz.prog 149 3 v = faddr 3 v := by kernel_rfl
theorem fg149_3 (s : St) (v : V) : vField Tryz.prog s 149 3 v = fget 3 3 true v := by kernel_rfl
theorem fa149_4 (v : V) : vFieldAddr Tryz.prog 149 4 v = faddr 6 v := by kernel_rfl
theorem fg149_4 (s : St) (v : V) : vField Tryz.prog s 149 4 v = fget 6 1 false v := by kernel_rfl
theorem fa149_5 (v : V) : vFieldAddr Tryz.prog 149 5 v = faddr 7 v := by kernel_rfl
theorem fg149_5 (s : St) (v : V) : vField Tryz.prog s 149 5 v = fget 7 1 false v := by kernel_rfl
theorem sz150 : szOf Tryz.prog 150 = 1 := by kernel_rfl
theorem ag150 : isAgg Tryz.prog 150 = false := by kernel_rfl
theorem ze150 : zero Tryz.prog 150 = some [V.nilfn] := by kernel_rfl
theorem sz151 : szOf Tryz.prog 151 = 1 := by kernel_rfl
theorem ag151 : isAgg Tryz.prog 151 = false := by kernel_rfl
theorem ze151 : zero Tryz.prog 151 = some [V.nilfn] := by kernel_rfl
theorem sz153 : szOf Tryz.prog 153 = 1 := by kernel_rfl
theorem ag153 : isAgg Tryz.prog 153 = false := by kernel_rfl
theorem ze153 : zero Tryz.prog 153 = some [V.nilfn] := by kernel_rfl
theorem sz154 : szOf Tryz.prog 154 = 1 := by kernel_rfl
theorem ag154 : isAgg Tryz.prog 154 = false := by kernel_rfl
theorem ze154 : zero Tryz.prog 154 = some [V.nilfn] := by kernel_rfl
theorem sz155 : szOf Tryz.prog 155 = 1 := by kernel_rfl
theorem ag155 : isAgg Tryz.prog 155 = false := by kernel_rfl
theorem ze155 : zero Tryz.prog 155 = some [V.nilfn] := by kernel_rfl
theorem sz156 : szOf Tryz.prog 156 = 3 := by kernel_rfl
theorem ag156 : isAgg Tryz.prog 156 = true := by kernel_rfl
theorem ze156 : zero Tryz.prog 156 = some [V.str ⟨#[]⟩, V.str ⟨#[]⟩, V.str ⟨#[]⟩] := by kernel_rfl
theorem la156 : layOf Tryz.prog 156 = some [(9, 0, 1), (9, 1, 1), (9, 2, 1)] := by kernel_rfl
theorem bd156 (H : Hint) (d : Nat) (ty : TypeId) (ps : Array (Nat × Operand)) (s : St) : evV Tryz.prog H d ty (.build 156 ps) s = aggO (buildL Tryz.prog [(9, 0, 1), (9, 1, 1), (9, 2, 1)] s [V.str ⟨#[]⟩, V.str ⟨#[]⟩, V.str ⟨#[]⟩] ps.toList) := build_lay la156 ze156
theorem xb156 (H : Hint) (d : Nat) (ty : TypeId) (ps : Array (Nat × Operand)) (pos : String) (aft : Array Edge) (g : Option (Nat × Bool)) : isX Tryz.prog H { dst := some d, op := .build 156 ps, type := ty, pos := pos, after := aft, guard := g } = !memN d H.arrs := by kernel_rfl
theorem fa156_0 (v : V) : vFieldAddr Tryz.prog 156 0 v = faddr 0 v := by kernel_rfl
theorem fg156_0 (s : St) (v : V) : vField Tryz.prog s 156 0 v = fget 0 1 false v := by kernel_rfl
theorem fa156_1 (v : V) : vFieldAddr Tryz.prog 156 1 v = faddr 1 v := by kernel_rfl
theorem fg156_1 (s : St) (v : V) : vField Tryz.prog s 156 1 v = fget 1 1 false v := by kernel_rfl
theorem fa156_2 (v : V) : vFieldAddr Tryz.prog 156 2 v = faddr 2 v := by kernel_rfl
theorem fg156_2 (s : St) (v : V) : vField Tryz.prog s 156 2 v = fget 2 1 false v := by kernel_rfl
theorem ev156 (x0 y0 : ByteArray) (x1 y1 : ByteArray) (x2 y2 : ByteArray) : eqV Tryz.prog 156 (.agg [V.str x0, V.str x1, V.str x2]) (.agg [V.str y0, V.str y1, V.str y2]) = some ((x0.toList == y0.toList) && ((x1.toList == y1.toList) && ((x2.toList == y2.toList) && true))) := by kernel_rfl
theorem eg156 : Tryz.prog.eqGuardType Tryz.prog.depth 156 = false := by kernel_rfl
theorem u157 : Tryz.prog.underlying 157 = some (.slice 159) := by kernel_rfl
theorem sz157 : szOf Tryz.prog 157 = 1 := by kernel_rfl
theorem ag157 : isAgg Tryz.prog 157 = false := by kernel_rfl
theorem eo157 : elemOf Tryz.prog 157 = 159 := by kernel_rfl
theorem es157 : elemSz Tryz.prog 157 = 3 := by kernel_rfl
theorem gr157 : growB Tryz.prog 157 = true := by kernel_rfl
theorem df157 : dflt Tryz.prog 157 = V.agg [V.int .i64 0, V.str ⟨#[]⟩, V.slc false 3 []] := by kernel_rfl
theorem ze157 : zero Tryz.prog 157 = some [V.slc true 3 []] := by kernel_rfl
theorem sz158 : szOf Tryz.prog 158 = 3 := by kernel_rfl
theorem ag158 : isAgg Tryz.prog 158 = true := by kernel_rfl
theorem ze158 : zero Tryz.prog 158 = some [V.int .i64 0, V.str ⟨#[]⟩, V.slc true 3 []] := by kernel_rfl
theorem la158 : layOf Tryz.prog 158 = some [(3, 0, 1), (9, 1, 1), (157, 2, 1)] := by kernel_rfl
theorem bd158 (H : Hint) (d : Nat) (ty : TypeId) (ps : Array (Nat × Operand)) (s : St) : evV Tryz.prog H d ty (.build 158 ps) s = aggO (buildL Tryz.prog [(3, 0, 1), (9, 1, 1), (157, 2, 1)] s [V.int .i64 0, V.str ⟨#[]⟩, V.slc true 3 []] ps.toList) := build_lay la158 ze158
theorem xb158 (H : Hint) (d : Nat) (ty : TypeId) (ps : Array (Nat × Operand)) (pos : String) (aft : Array Edge) (g : Option (Nat × Bool)) : isX Tryz.prog H { dst := some d, op := .build 158 ps, type := ty, pos := pos, after := aft, guard := g } = !memN d H.arrs := by kernel_rfl
theorem fa158_0 (v : V) : vFieldAddr Tryz.prog 158 0 v = faddr 0 v := by kernel_rfl
theorem fg158_0 (s : St) (v : V) : vField Tryz.prog s 158 0 v = fget 0 1 false v := by kernel_rfl
theorem fa158_1 (v : V) : vFieldAddr Tryz.prog 158 1 v = faddr 1 v := by kernel_rfl
theorem fg158_1 (s : St) (v : V) : vField Tryz.prog s 158 1 v = fget 1 1 false v := by kernel_rfl
theorem fa158_2 (v : V) : vFieldAddr Tryz.prog 158 2 v = faddr 2 v := by kernel_rfl
theorem fg158_2 (s : St) (v : V) : vField Tryz.prog s 158 2 v = fget 2 1 false v := by kernel_rfl
theorem sz159 : szOf Tryz.prog 159 = 3 := by kernel_rfl
theorem ag159 : isAgg Tryz.prog 159 = true := by kernel_rfl
theorem ze159 : zero Tryz.prog 159 = some [V.int .i64 0, V.str ⟨#[]⟩, V.slc true 3 []] := by kernel_rfl
theorem la159 : layOf Tryz.prog 159 = some [(3, 0, 1), (9, 1, 1), (157, 2, 1)] := by kernel_rfl
theorem bd159 (H : Hint) (d : Nat) (ty : TypeId) (ps : Array (Nat × Operand)) (s : St) : evV Tryz.prog H d ty (.build 159 ps) s = aggO (buildL Tryz.prog [(3, 0, 1), (9, 1, 1), (157, 2, 1)] s [V.int .i64 0, V.str ⟨#[]⟩, V.slc true 3 []] ps.toList) := build_lay la159 ze159
theorem xb159 (H : Hint) (d : Nat) (ty : TypeId) (ps : Array (Nat × Operand)) (pos : String) (aft : Array Edge) (g : Option (Nat × Bool)) : isX Tryz.prog H { dst := some d, op := .build 159 ps, type := ty, pos := pos, after := aft, guard := g } = !memN d H.arrs := by kernel_rfl
theorem fa159_0 (v : V) : vFieldAddr Tryz.prog 159 0 v = faddr 0 v := by kernel_rfl
theorem fg159_0 (s : St) (v : V) : vField Tryz.prog s 159 0 v = fget 0 1 false v := by kernel_rfl
theorem fa159_1 (v : V) : vFieldAddr Tryz.prog 159 1 v = faddr 1 v := by kernel_rfl
theorem fg159_1 (s : St) (v : V) : vField Tryz.prog s 159 1 v = fget 1 1 false v := by kernel_rfl
theorem fa159_2 (v : V) : vFieldAddr Tryz.prog 159 2 v = faddr 2 v := by kernel_rfl
theorem fg159_2 (s : St) (v : V) : vField Tryz.prog s 159 2 v = fget 2 1 false v := by kernel_rfl
theorem sz160 : szOf Tryz.prog 160 = 8 := by kernel_rfl
theorem ag160 : isAgg Tryz.prog 160 = true := by kernel_rfl
theorem ze160 : zero Tryz.prog 160 = some [V.int .i64 0, V.str ⟨#[]⟩, V.str ⟨#[]⟩, V.str ⟨#[]⟩, V.str ⟨#[]⟩, V.int .i64 0, V.str ⟨#[]⟩, V.slc true 3 []] := by kernel_rfl
theorem la160 : layOf Tryz.prog 160 = some [(3, 0, 1), (9, 1, 1), (156, 2, 3), (159, 5, 3)] := by kernel_rfl
theorem bd160 (H : Hint) (d : Nat) (ty : TypeId) (ps : Array (Nat × Operand)) (s : St) : evV Tryz.prog H d ty (.build 160 ps) s = aggO (buildL Tryz.prog [(3, 0, 1), (9, 1, 1), (156, 2, 3), (159, 5, 3)] s [V.int .i64 0, V.str ⟨#[]⟩, V.str ⟨#[]⟩, V.str ⟨#[]⟩, V.str ⟨#[]⟩, V.int .i64 0, V.str ⟨#[]⟩, V.slc true 3 []] ps.toList) := build_lay la160 ze160
theorem xb160 (H : Hint) (d : Nat) (ty : TypeId) (ps : Array (Nat × Operand)) (pos : String) (aft : Array Edge) (g : Option (Nat × Bool)) : isX Tryz.prog H { dst := some d, op := .build 160 ps, type := ty, pos := pos, after := aft, guard := g } = !memN d H.arrs := by kernel_rfl
theorem fa160_0 (v : V) : vFieldAddr Tryz.prog 160 0 v = faddr 0 v := by kernel_rfl
theorem fg160_0 (s : St) (v : V) : vField Tryz.prog s 160 0 v = fget 0 1 false v := by kernel_rfl
theorem fa160_1 (v : V) : vFieldAddr Tryz.prog 160 1 v = faddr 1 v := by kernel_rfl
theorem fg160_1 (s : St) (v : V) : vField Tryz.prog s 160 1 v = fget 1 1 false v := by kernel_rfl
theorem fa160_2 (v : V) : vFieldAddr Tryz.prog 160 2 v = faddr 2 v := by kernel_rfl
theorem fg160_2 (s : St) (v : V) : vField Tryz.prog s 160 2 v = fget 2 3 true v := by kernel_rfl
theorem fa160_3 (v : V) : vFieldAddr Tryz.prog 160 3 v = faddr 5 v := by kernel_rfl
theorem fg160_3 (s : St) (v : V) : vField Tryz.prog s 160 3 v = fget 5 3 true v := by kernel_rfl
theorem sz161 : szOf Tryz.prog 161 = 8 := by kernel_rfl
theorem ag161 : isAgg Tryz.prog 161 = true := by kernel_rfl
theorem ze161 : zero Tryz.prog 161 = some [V.int .i64 0, V.str ⟨#[]⟩, V.str ⟨#[]⟩, V.str ⟨#[]⟩, V.str ⟨#[]⟩, V.int .i64 0, V.str ⟨#[]⟩, V.slc true 3 []] := by kernel_rfl
theorem la161 : layOf Tryz.prog 161 = some [(3, 0, 1), (9, 1, 1), (156, 2, 3), (159, 5, 3)] := by kernel_rfl
theorem bd161 (H : Hint) (d : Nat) (ty : TypeId) (ps : Array (Nat × Operand)) (s : St) : evV Tryz.prog H d ty (.build 161 ps) s = aggO (buildL Tryz.prog [(3, 0, 1), (9, 1, 1), (156, 2, 3), (159, 5, 3)] s [V.int .i64 0, V.str ⟨#[]⟩, V.str ⟨#[]⟩, V.str ⟨#[]⟩, V.str ⟨#[]⟩, V.int .i64 0, V.str ⟨#[]⟩, V.slc true 3 []] ps.toList) := build_lay la161 ze161
theorem xb161 (H : Hint) (d : Nat) (ty : TypeId) (ps : Array (Nat × Operand)) (pos : String) (aft : Array Edge) (g : Option (Nat × Bool)) : isX Tryz.prog H { dst := some d, op := .build 161 ps, type := ty, pos := pos, after := aft, guard := g } = !memN d H.arrs := by kernel_rfl
theorem fa161_0 (v : V) : vFieldAddr Tryz.prog 161 0 v = faddr 0 v := by kernel_rfl
theorem fg161_0 (s : St) (v : V) : vField Tryz.prog s 161 0 v = fget 0 1 false v := by kernel_rfl
theorem fa161_1 (v : V) : vFieldAddr Tryz.prog 161 1 v = faddr 1 v := by kernel_rfl
theorem fg161_1 (s : St) (v : V) : vField Tryz.prog s 161 1 v = fget 1 1 false v := by kernel_rfl
theorem fa161_2 (v : V) : vFieldAddr Tryz.prog 161 2 v = faddr 2 v := by kernel_rfl
theorem fg161_2 (s : St) (v : V) : vField Tryz.prog s 161 2 v = fget 2 3 true v := by kernel_rfl
theorem fa161_3 (v : V) : vFieldAddr Tryz.prog 161 3 v = faddr 5 v := by kernel_rfl
theorem fg161_3 (s : St) (v : V) : vField Tryz.prog s 161 3 v = fget 5 3 true v := by kernel_rfl
theorem sz162 : szOf Tryz.prog 162 = 1 := by kernel_rfl
theorem ag162 : isAgg Tryz.prog 162 = false := by kernel_rfl
theorem ze162 : zero Tryz.prog 162 = some [V.nilfn] := by kernel_rfl
theorem sz163 : szOf Tryz.prog 163 = 1 := by kernel_rfl
theorem ag163 : isAgg Tryz.prog 163 = false := by kernel_rfl
theorem ze163 : zero Tryz.prog 163 = some [V.nilfn] := by kernel_rfl
theorem sz164 : szOf Tryz.prog 164 = 1 := by kernel_rfl
theorem ag164 : isAgg Tryz.prog 164 = false := by kernel_rfl
theorem ze164 : zero Tryz.prog 164 = some [V.nilfn] := by kernel_rfl
theorem sz165 : szOf Tryz.prog 165 = 1 := by kernel_rfl
theorem ag165 : isAgg Tryz.prog 165 = false := by kernel_rfl
theorem ze165 : zero Tryz.prog 165 = some [V.nilfn] := by kernel_rfl
theorem sz166 : szOf Tryz.prog 166 = 1 := by kernel_rfl
theorem ag166 : isAgg Tryz.prog 166 = false := by kernel_rfl
theorem ze166 : zero Tryz.prog 166 = some [V.nilfn] := by kernel_rfl
theorem sz167 : szOf Tryz.prog 167 = 1 := by kernel_rfl
theorem ag167 : isAgg Tryz.prog 167 = false := by kernel_rfl
theorem ze167 : zero Tryz.prog 167 = some [V.nilfn] := by kernel_rfl
theorem sz168 : szOf Tryz.prog 168 = 1 := by kernel_rfl
theorem ag168 : isAgg Tryz.prog 168 = false := by kernel_rfl
theorem ze168 : zero Tryz.prog 168 = some [V.nilfn] := by kernel_rfl
theorem sz169 : szOf Tryz.prog 169 = 1 := by kernel_rfl
theorem ag169 : isAgg Tryz.prog 169 = false := by kernel_rfl
theorem ze169 : zero Tryz.prog 169 = some [V.nilfn] := by kernel_rfl
theorem sz170 : szOf Tryz.prog 170 = 1 := by kernel_rfl
theorem ag170 : isAgg Tryz.prog 170 = false := by kernel_rfl
theorem ze170 : zero Tryz.prog 170 = some [V.nilfn] := by kernel_rfl
theorem sz171 : szOf Tryz.prog 171 = 1 := by kernel_rfl
theorem ag171 : isAgg Tryz.prog 171 = false := by kernel_rfl
theorem ze171 : zero Tryz.prog 171 = some [V.nilfn] := by kernel_rfl
theorem sz172 : szOf Tryz.prog 172 = 1 := by kernel_rfl
theorem ag172 : isAgg Tryz.prog 172 = false := by kernel_rfl
theorem ze172 : zero Tryz.prog 172 = some [V.nilfn] := by kernel_rfl
theorem sz173 : szOf Tryz.prog 173 = 1 := by kernel_rfl
theorem ag173 : isAgg Tryz.prog 173 = false := by kernel_rfl
theorem ze173 : zero Tryz.prog 173 = some [V.nilfn] := by kernel_rfl
theorem sz174 : szOf Tryz.prog 174 = 1 := by kernel_rfl
theorem ag174 : isAgg Tryz.prog 174 = false := by kernel_rfl
theorem ze174 : zero Tryz.prog 174 = some [V.nilfn] := by kernel_rfl
theorem u175 : Tryz.prog.underlying 175 = some (.slice 178) := by kernel_rfl
theorem sz175 : szOf Tryz.prog 175 = 1 := by kernel_rfl
theorem ag175 : isAgg Tryz.prog 175 = false := by kernel_rfl
theorem eo175 : elemOf Tryz.prog 175 = 178 := by kernel_rfl
theorem es175 : elemSz Tryz.prog 175 = 2 := by kernel_rfl
theorem gr175 : growB Tryz.prog 175 = true := by kernel_rfl
theorem df175 : dflt Tryz.prog 175 = V.agg [V.int .i64 0, V.int .i64 0] := by kernel_rfl
theorem ze175 : zero Tryz.prog 175 = some [V.slc true 2 []] := by kernel_rfl
theorem sz177 : szOf Tryz.prog 177 = 1 := by kernel_rfl
theorem ag177 : isAgg Tryz.prog 177 = false := by kernel_rfl
theorem ze177 : zero Tryz.prog 177 = some [V.nilfn] := by kernel_rfl
theorem xa178 (H : Hint) (d : Nat) (ty : TypeId) (ps : Array (Nat × Operand)) (pos : String) (aft : Array Edge) (g : Option (Nat × Bool)) : isX Tryz.prog H { dst := some d, op := .build 178 ps, type := ty, pos := pos, after := aft, guard := g } = memN d H.arrs := by kernel_rfl
theorem u178 : Tryz.prog.underlying 178 = some (.array 2 3) := by kernel_rfl
theorem sz178 : szOf Tryz.prog 178 = 2 := by kernel_rfl
theorem ag178 : isAgg Tryz.prog 178 = true := by kernel_rfl
theorem eo178 : elemOf Tryz.prog 178 = 3 := by kernel_rfl
theorem es178 : elemSz Tryz.prog 178 = 1 := by kernel_rfl
theorem ze178 : zero Tryz.prog 178 = some [V.int .i64 0, V.int .i64 0] := by kernel_rfl
theorem sz179 : szOf Tryz.prog 179 = 1 := by kernel_rfl
theorem ag179 : isAgg Tryz.prog 179 = false := by kernel_rfl
theorem ze179 : zero Tryz.prog 179 = some [V.nilfn] := by kernel_rfl
theorem sz180 : szOf Tryz.prog 180 = 1 := by kernel_rfl
theorem ag180 : isAgg Tryz.prog 180 = false := by kernel_rfl
theorem ze180 : zero Tryz.prog 180 = some [V.nilfn] := by kernel_rfl
theorem sz181 : szOf Tryz.prog 181 = 1 := by kernel_rfl
theorem ag181 : isAgg Tryz.prog 181 = false := by kernel_rfl
theorem ze181 : zero Tryz.prog 181 = some [V.nilfn] := by kernel_rfl
theorem sz182 : szOf Tryz.prog 182 = 1 := by kernel_rfl
theorem ag182 : isAgg Tryz.prog 182 = false := by kernel_rfl
theorem ze182 : zero Tryz.prog 182 = some [V.nilfn] := by kernel_rfl
theorem sz183 : szOf Tryz.prog 183 = 1 := by kernel_rfl
theorem ag183 : isAgg Tryz.prog 183 = false := by kernel_rfl
theorem ze183 : zero Tryz.prog 183 = some [V.nilfn] := by kernel_rfl
theorem sz184 : szOf Tryz.prog 184 = 1 := by kernel_rfl
theorem ag184 : isAgg Tryz.prog 184 = false := by kernel_rfl
theorem ze184 : zero Tryz.prog 184 = some [V.nilfn] := by kernel_rfl
theorem sz185 : szOf Tryz.prog 185 = 1 := by kernel_rfl
theorem ag185 : isAgg Tryz.prog 185 = false := by kernel_rfl
theorem ze185 : zero Tryz.prog 185 = some [V.nilfn] := by kernel_rfl
theorem sz186 : szOf Tryz.prog 186 = 1 := by kernel_rfl
theorem ag186 : isAgg Tryz.prog 186 = false := by kernel_rfl
theorem ze186 : zero Tryz.prog 186 = some [V.nilfn] := by kernel_rfl
theorem sz187 : szOf Tryz.prog 187 = 1 := by kernel_rfl
theorem ag187 : isAgg Tryz.prog 187 = false := by kernel_rfl
theorem ze187 : zero Tryz.prog 187 = some [V.nilfn] := by kernel_rfl
theorem sz188 : szOf Tryz.prog 188 = 1 := by kernel_rfl
theorem ag188 : isAgg Tryz.prog 188 = false := by kernel_rfl
theorem ze188 : zero Tryz.prog 188 = some [V.nilfn] := by kernel_rfl
theorem sz189 : szOf Tryz.prog 189 = 1 := by kernel_rfl
theorem ag189 : isAgg Tryz.prog 189 = false := by kernel_rfl
theorem ze189 : zero Tryz.prog 189 = some [V.nilfn] := by kernel_rfl
theorem sz190 : szOf Tryz.prog 190 = 1 := by kernel_rfl
theorem ag190 : isAgg Tryz.prog 190 = false := by kernel_rfl
theorem ze190 : zero Tryz.prog 190 = some [V.nilfn] := by kernel_rfl
theorem sz191 : szOf Tryz.prog 191 = 1 := by kernel_rfl
theorem ag191 : isAgg Tryz.prog 191 = false := by kernel_rfl
theorem ze191 : zero Tryz.prog 191 = some [V.nilfn] := by kernel_rfl
theorem sz192 : szOf Tryz.prog 192 = 1 := by kernel_rfl
theorem ag192 : isAgg Tryz.prog 192 = false := by kernel_rfl
theorem ze192 : zero Tryz.prog 192 = some [V.nilfn] := by kernel_rfl
theorem sz193 : szOf Tryz.prog 193 = 1 := by kernel_rfl
theorem ag193 : isAgg Tryz.prog 193 = false := by kernel_rfl
theorem ze193 : zero Tryz.prog 193 = some [V.nilfn] := by kernel_rfl
theorem sz194 : szOf Tryz.prog 194 = 1 := by kernel_rfl
theorem ag194 : isAgg Tryz.prog 194 = false := by kernel_rfl
theorem ze194 : zero Tryz.prog 194 = some [V.nilfn] := by kernel_rfl
theorem sz195 : szOf Tryz.prog 195 = 1 := by kernel_rfl
theorem ag195 : isAgg Tryz.prog 195 = false := by kernel_rfl
theorem ze195 : zero Tryz.prog 195 = some [V.nilfn] := by kernel_rfl
theorem sz196 : szOf Tryz.prog 196 = 1 := by kernel_rfl
theorem ag196 : isAgg Tryz.prog 196 = false := by kernel_rfl
theorem ze196 : zero Tryz.prog 196 = some [V.nilfn] := by kernel_rfl
theorem sz197 : szOf Tryz.prog 197 = 1 := by kernel_rfl
theorem ag197 : isAgg Tryz.prog 197 = false := by kernel_rfl
theorem ze197 : zero Tryz.prog 197 = some [V.nilfn] := by kernel_rfl
theorem sz198 : szOf Tryz.prog 198 = 1 := by kernel_rfl
theorem ag198 : isAgg Tryz.prog 198 = false := by kernel_rfl
theorem ze198 : zero Tryz.prog 198 = some [V.nilfn] := by kernel_rfl
theorem sz199 : szOf Tryz.prog 199 = 1 := by kernel_rfl
theorem ag199 : isAgg Tryz.prog 199 = false := by kernel_rfl
theorem ze199 : zero Tryz.prog 199 = some [V.nilfn] := by kernel_rfl
theorem sz200 : szOf Tryz.prog 200 = 1 := by kernel_rfl
theorem ag200 : isAgg Tryz.prog 200 = false := by kernel_rfl
theorem ze200 : zero Tryz.prog 200 = some [V.nilfn] := by kernel_rfl
theorem sz201 : szOf Tryz.prog 201 = 1 := by kernel_rfl
theorem ag201 : isAgg Tryz.prog 201 = false := by kernel_rfl
theorem ze201 : zero Tryz.prog 201 = some [V.nilfn] := by kernel_rfl
theorem sz202 : szOf Tryz.prog 202 = 1 := by kernel_rfl
theorem ag202 : isAgg Tryz.prog 202 = false := by kernel_rfl
theorem ze202 : zero Tryz.prog 202 = some [V.nilfn] := by kernel_rfl
theorem sz203 : szOf Tryz.prog 203 = 1 := by kernel_rfl
theorem ag203 : isAgg Tryz.prog 203 = false := by kernel_rfl
theorem ze203 : zero Tryz.prog 203 = some [V.nilfn] := by kernel_rfl
theorem u204 : Tryz.prog.underlying 204 = some (.slice 121) := by kernel_rfl
theorem sz204 : szOf Tryz.prog 204 = 1 := by kernel_rfl
theorem ag204 : isAgg Tryz.prog 204 = false := by kernel_rfl
theorem eo204 : elemOf Tryz.prog 204 = 121 := by kernel_rfl
theorem es204 : elemSz Tryz.prog 204 = 2 := by kernel_rfl
theorem gr204 : growB Tryz.prog 204 = true := by kernel_rfl
theorem df204 : dflt Tryz.prog 204 = V.agg [V.int .u8 0, V.str ⟨#[]⟩] := by kernel_rfl
theorem ze204 : zero Tryz.prog 204 = some [V.slc true 2 []] := by kernel_rfl
theorem sz205 : szOf Tryz.prog 205 = 1 := by kernel_rfl
theorem ag205 : isAgg Tryz.prog 205 = false := by kernel_rfl
theorem ze205 : zero Tryz.prog 205 = some [V.nilfn] := by kernel_rfl
theorem sz206 : szOf Tryz.prog 206 = 1 := by kernel_rfl
theorem ag206 : isAgg Tryz.prog 206 = false := by kernel_rfl
theorem ze206 : zero Tryz.prog 206 = some [V.nilfn] := by kernel_rfl
theorem sz207 : szOf Tryz.prog 207 = 1 := by kernel_rfl
theorem ag207 : isAgg Tryz.prog 207 = false := by kernel_rfl
theorem ze207 : zero Tryz.prog 207 = some [V.nilfn] := by kernel_rfl
theorem sz208 : szOf Tryz.prog 208 = 1 := by kernel_rfl
theorem ag208 : isAgg Tryz.prog 208 = false := by kernel_rfl
theorem ze208 : zero Tryz.prog 208 = some [V.nilfn] := by kernel_rfl
theorem sz209 : szOf Tryz.prog 209 = 1 := by kernel_rfl
theorem ag209 : isAgg Tryz.prog 209 = false := by kernel_rfl
theorem ze209 : zero Tryz.prog 209 = some [V.nilfn] := by kernel_rfl
theorem sz210 : szOf Tryz.prog 210 = 1 := by kernel_rfl
theorem ag210 : isAgg Tryz.prog 210 = false := by kernel_rfl
theorem ze210 : zero Tryz.prog 210 = some [V.nilfn] := by kernel_rfl
theorem sz211 : szOf Tryz.prog 211 = 8 := by kernel_rfl
theorem ag211 : isAgg Tryz.prog 211 = true := by kernel_rfl
theorem ze211 : zero Tryz.prog 211 = some [V.int .i64 0, V.str ⟨#[]⟩, V.str ⟨#[]⟩, V.int .i64 0, V.str ⟨#[]⟩, V.slc true 3 [], V.slc true 1 [], V.int .i64 0] := by kernel_rfl
theorem la211 : layOf Tryz.prog 211 = some [(3, 0, 1), (9, 1, 1), (9, 2, 1), (159, 3, 3), (49, 6, 1), (3, 7, 1)] := by kernel_rfl
theorem bd211 (H : Hint) (d : Nat) (ty : TypeId) (ps : Array (Nat × Operand)) (s : St) : evV Tryz.prog H d ty (.build 211 ps) s = aggO (buildL Tryz.prog [(3, 0, 1), (9, 1, 1), (9, 2, 1), (159, 3, 3), (49, 6, 1), (3, 7, 1)] s [V.int .i64 0, V.str ⟨#[]⟩, V.str ⟨#[]⟩, V.int .i64 0, V.str ⟨#[]⟩, V.slc true 3 [], V.slc true 1 [], V.int .i64 0] ps.toList) := build_lay la211 ze211
theorem xb211 (H : Hint) (d : Nat) (ty : TypeId) (ps : Array (Nat × Operand)) (pos : String) (aft : Array Edge) (g : Option (Nat × Bool)) : isX Tryz.prog H { dst := some d, op := .build 211 ps, type := ty, pos := pos, after := aft, guard := g } = !memN d H.arrs := by kernel_rfl
theorem fa211_0 (v : V) : vFieldAddr Tryz.prog 211 0 v = faddr 0 v := by kernel_rfl
theorem fg211_0 (s : St) (v : V) : vField Tryz.prog s 211 0 v = fget 0 1 false v := by kernel_rfl
theorem fa211_1 (v : V) : vFieldAddr Tryz.prog 211 1 v = faddr 1 v := by kernel_rfl
theorem fg211_1 (s : St) (v : V) : vField Tryz.prog s 211 1 v = fget 1 1 false v := by kernel_rfl
theorem fa211_2 (v : V) : vFieldAddr Tryz.prog 211 2 v = faddr 2 v := by kernel_rfl
theorem fg211_2 (s : St) (v : V) : vField Tryz.prog s 211 2 v = fget 2 1 false v := by kernel_rfl
theorem fa211_3 (v : V) : vFieldAddr Tryz.prog 211 3 v = faddr 3 v := by kernel_rfl
theorem fg211_3 (s : St) (v : V) : vField Tryz.prog s 211 3 v = fget 3 3 true v := by kernel_rfl
theorem fa211_4 (v : V) : vFieldAddr Tryz.prog 211 4 v = faddr 6 v := by kernel_rfl
theorem fg211_4 (s : St) (v : V) : vField Tryz.prog s 211 4 v = fget 6 1 false v := by kernel_rfl
theorem fa211_5 (v : V) : vFieldAddr Tryz.prog 211 5 v = faddr 7 v := by kernel_rfl
theorem fg211_5 (s : St) (v : V) : vField Tryz.prog s 211 5 v = fget 7 1 false v := by kernel_rfl
theorem sz212 : szOf Tryz.prog 212 = 8 := by kernel_rfl
theorem ag212 : isAgg Tryz.prog 212 = true := by kernel_rfl
theorem ze212 : zero Tryz.prog 212 = some [V.int .i64 0, V.str ⟨#[]⟩, V.str ⟨#[]⟩, V.int .i64 0, V.str ⟨#[]⟩, V.slc true 3 [], V.slc true 1 [], V.int .i64 0] := by kernel_rfl
theorem la212 : layOf Tryz.prog 212 = some [(3, 0, 1), (9, 1, 1), (9, 2, 1), (159, 3, 3), (49, 6, 1), (3, 7, 1)] := by kernel_rfl
theorem bd212 (H : Hint) (d : Nat) (ty : TypeId) (ps : Array (Nat × Operand)) (s : St) : evV Tryz.prog H d ty (.build 212 ps) s = aggO (buildL Tryz.prog [(3, 0, 1), (9, 1, 1), (9, 2, 1), (159, 3, 3), (49, 6, 1), (3, 7, 1)] s [V.int .i64 0, V.str ⟨#[]⟩, V.str ⟨#[]⟩, V.int .i64 0, V.str ⟨#[]⟩, V.slc true 3 [], V.slc true 1 [], V.int .i64 0] ps.toList) := build_lay la212 ze212
theorem xb212 (H : Hint) (d : Nat) (ty : TypeId) (ps : Array (Nat × Operand)) (pos : String) (aft : Array Edge) (g : Option (Nat × Bool)) : isX Tryz.prog H { dst := some d, op := .build 212 ps, type := ty, pos := pos, after := aft, guard := g } = !memN d H.arrs := by kernel_rfl
theorem fa212_0 (v : V) : vFieldAddr Tryz.prog 212 0 v = faddr 0 v := by kernel_rfl
theorem fg212_0 (s : St) (v : V) : vField Tryz.prog s 212 0 v = fget 0 1 false v := by kernel_rfl
theorem fa212_1 (v : V) : vFieldAddr Tryz.prog 212 1 v = faddr 1 v := by kernel_rfl
theorem fg212_1 (s : St) (v : V) : vField Tryz.prog s 212 1 v = fget 1 1 false v := by kernel_rfl
theorem fa212_2 (v : V) : vFieldAddr Tryz.prog 212 2 v = faddr 2 v := by kernel_rfl
theorem fg212_2 (s : St) (v : V) : vField Tryz.prog s 212 2 v = fget 2 1 false v := by kernel_rfl
theorem fa212_3 (v : V) : vFieldAddr Tryz.prog 212 3 v = faddr 3 v := by kernel_rfl
theorem fg212_3 (s : St) (v : V) : vField Tryz.prog s 212 3 v = fget 3 3 true v := by kernel_rfl
theorem fa212_4 (v : V) : vFieldAddr Tryz.prog 212 4 v = faddr 6 v := by kernel_rfl
theorem fg212_4 (s : St) (v : V) : vField Tryz.prog s 212 4 v = fget 6 1 false v := by kernel_rfl
theorem fa212_5 (v : V) : vFieldAddr Tryz.prog 212 5 v = faddr 7 v := by kernel_rfl
theorem fg212_5 (s : St) (v : V) : vField Tryz.prog s 212 5 v = fget 7 1 false v := by kernel_rfl
theorem sz213 : szOf Tryz.prog 213 = 1 := by kernel_rfl
theorem ag213 : isAgg Tryz.prog 213 = false := by kernel_rfl
theorem ze213 : zero Tryz.prog 213 = some [V.nilfn] := by kernel_rfl
theorem sz215 : szOf Tryz.prog 215 = 1 := by kernel_rfl
theorem ag215 : isAgg Tryz.prog 215 = false := by kernel_rfl
theorem ze215 : zero Tryz.prog 215 = some [V.nilfn] := by kernel_rfl
theorem u216 : Tryz.prog.underlying 216 = some (.slice 226) := by kernel_rfl
theorem sz216 : szOf Tryz.prog 216 = 1 := by kernel_rfl
theorem ag216 : isAgg Tryz.prog 216 = false := by kernel_rfl
theorem eo216 : elemOf Tryz.prog 216 = 226 := by kernel_rfl
theorem es216 : elemSz Tryz.prog 216 = 3 := by kernel_rfl
theorem gr216 : growB Tryz.prog 216 = true := by kernel_rfl
theorem df216 : dflt Tryz.prog 216 = V.agg [V.int .u8 0, V.slc false 1 [], V.slc false 1 []] := by kernel_rfl
theorem ze216 : zero Tryz.prog 216 = some [V.slc true 3 []] := by kernel_rfl
theorem sz218 : szOf Tryz.prog 218 = 1 := by kernel_rfl
theorem ag218 : isAgg Tryz.prog 218 = false := by kernel_rfl
theorem ze218 : zero Tryz.prog 218 = some [V.nilfn] := by kernel_rfl
theorem sz219 : szOf Tryz.prog 219 = 1 := by kernel_rfl
theorem ag219 : isAgg Tryz.prog 219 = false := by kernel_rfl
theorem ze219 : zero Tryz.prog 219 = some [V.nilfn] := by kernel_rfl
theorem u220 : Tryz.prog.underlying 220 = some (.slice 223) := by kernel_rfl
theorem sz220 : szOf Tryz.prog 220 = 1 := by kernel_rfl
theorem ag220 : isAgg Tryz.prog 220 = false := by kernel_rfl
theorem eo220 : elemOf Tryz.prog 220 = 223 := by kernel_rfl
theorem es220 : elemSz Tryz.prog 220 = 6 := by kernel_rfl
theorem gr220 : growB Tryz.prog 220 = true := by kernel_rfl
theorem df220 : dflt Tryz.prog 220 = V.agg [V.int .i64 0, V.int .i64 0, V.int .i64 0, V.int .i64 0, V.int .i64 0, V.int .i64 0] := by kernel_rfl
theorem ze220 : zero Tryz.prog 220 = some [V.slc true 6 []] := by kernel_rfl
theorem sz222 : szOf Tryz.prog 222 = 1 := by kernel_rfl
theorem ag222 : isAgg Tryz.prog 222 = false := by kernel_rfl
theorem ze222 : zero Tryz.prog 222 = some [V.nilfn] := by kernel_rfl
theorem xa223 (H : Hint) (d : Nat) (ty : TypeId) (ps : Array (Nat × Operand)) (pos : String) (aft : Array Edge) (g : Option (Nat × Bool)) : isX Tryz.prog H { dst := some d, op := .build 223 ps, type := ty, pos := pos, after := aft, guard := g } = memN d H.arrs := by kernel_rfl
theorem u223 : Tryz.prog.underlying 223 = some (.array 6 3) := by kernel_rfl
theorem sz223 : szOf Tryz.prog 223 = 6 := by kernel_rfl
theorem ag223 : isAgg Tryz.prog 223 = true := by kernel_rfl
theorem eo223 : elemOf Tryz.prog 223 = 3 := by kernel_rfl
theorem es223 : elemSz Tryz.prog 223 = 1 := by kernel_rfl
theorem ze223 : zero Tryz.prog 223 = some [V.int .i64 0, V.int .i64 0, V.int .i64 0, V.int .i64 0, V.int .i64 0, V.int .i64 0] := by kernel_rfl
theorem sz224 : szOf Tryz.prog 224 = 1 := by kernel_rfl
theorem ag224 : isAgg Tryz.prog 224 = false := by kernel_rfl
theorem ze224 : zero Tryz.prog 224 = some [V.nilfn] := by kernel_rfl
theorem sz225 : szOf Tryz.prog 225 = 3 := by kernel_rfl
theorem ag225 : isAgg Tryz.prog 225 = true := by kernel_rfl
theorem ze225 : zero Tryz.prog 225 = some [V.int .u8 0, V.slc true 1 [], V.slc true 1 []] := by kernel_rfl
theorem la225 : layOf Tryz.prog 225 = some [(5, 0, 1), (39, 1, 2)] := by kernel_rfl
theorem bd225 (H : Hint) (d : Nat) (ty : TypeId) (ps : Array (Nat × Operand)) (s : St) : evV Tryz.prog H d ty (.build 225 ps) s = aggO (buildL Tryz.prog [(5, 0, 1), (39, 1, 2)] s [V.int .u8 0, V.slc true 1 [], V.slc true 1 []] ps.toList) := build_lay la225 ze225
theorem xb225 (H : Hint) (d : Nat) (ty : TypeId) (ps : Array (Nat × Operand)) (pos : String) (aft : Array Edge) (g : Option (Nat × Bool)) : isX Tryz.prog H { dst := some d, op := .build 225 ps, type := ty, pos := pos, after := aft, guard := g } = !memN d H.arrs := by kernel_rfl
theorem fa225_0 (v : V) : vFieldAddr Tryz.prog 225 0 v = faddr 0 v := by kernel_rfl
theorem fg225_0 (s : St) (v : V) : vField Tryz.prog s 225 0 v = fget 0 1 false v := by kernel_rfl
theorem fa225_1 (v : V) : vFieldAddr Tryz.prog 225 1 v = faddr 1 v := by kernel_rfl
theorem fg225_1 (s : St) (v : V) : vField Tryz.prog s 225 1 v = fget 1 2 true v := by kernel_rfl
theorem sz226 : szOf Tryz.prog 226 = 3 := by kernel_rfl
theorem ag226 : isAgg Tryz.prog 226 = true := by kernel_rfl
theorem ze226 : zero Tryz.prog 226 = some [V.int .u8 0, V.slc true 1 [], V.slc true 1 []] := by kernel_rfl
theorem la226 : layOf Tryz.prog 226 = some [(5, 0, 1), (39, 1, 2)] := by kernel_rfl
theorem bd226 (H : Hint) (d : Nat) (ty : TypeId) (ps : Array (Nat × Operand)) (s : St) : evV Tryz.prog H d ty (.build 226 ps) s = aggO (buildL Tryz.prog [(5, 0, 1), (39, 1, 2)] s [V.int .u8 0, V.slc true 1 [], V.slc true 1 []] ps.toList) := build_lay la226 ze226
theorem xb226 (H : Hint) (d : Nat) (ty : TypeId) (ps : Array (Nat × Operand)) (pos : String) (aft : Array Edge) (g : Option (Nat × Bool)) : isX Tryz.prog H { dst := some d, op := .build 226 ps, type := ty, pos := pos, after := aft, guard := g } = !memN d H.arrs := by kernel_rfl
theorem fa226_0 (v : V) : vFieldAddr Tryz.prog 226 0 v = faddr 0 v := by kernel_rfl
theorem fg226_0 (s : St) (v : V) : vField Tryz.prog s 226 0 v = fget 0 1 false v := by kernel_rfl
theorem fa226_1 (v : V) : vFieldAddr Tryz.prog 226 1 v = faddr 1 v := by kernel_rfl
theorem fg226_1 (s : St) (v : V) : vField Tryz.prog s 226 1 v = fget 1 2 true v := by kernel_rfl
theorem sz227 : szOf Tryz.prog 227 = 1 := by kernel_rfl
theorem ag227 : isAgg Tryz.prog 227 = false := by kernel_rfl
theorem ze227 : zero Tryz.prog 227 = some [V.nilfn] := by kernel_rfl
theorem sz229 : szOf Tryz.prog 229 = 1 := by kernel_rfl
theorem ag229 : isAgg Tryz.prog 229 = false := by kernel_rfl
theorem ze229 : zero Tryz.prog 229 = some [V.nilfn] := by kernel_rfl
theorem sz230 : szOf Tryz.prog 230 = 1 := by kernel_rfl
theorem ag230 : isAgg Tryz.prog 230 = false := by kernel_rfl
theorem ze230 : zero Tryz.prog 230 = some [V.nilfn] := by kernel_rfl
theorem sz231 : szOf Tryz.prog 231 = 1 := by kernel_rfl
theorem ag231 : isAgg Tryz.prog 231 = false := by kernel_rfl
theorem ze231 : zero Tryz.prog 231 = some [V.nilfn] := by kernel_rfl
theorem sz232 : szOf Tryz.prog 232 = 1 := by kernel_rfl
theorem ag232 : isAgg Tryz.prog 232 = false := by kernel_rfl
theorem ze232 : zero Tryz.prog 232 = some [V.nilfn] := by kernel_rfl
theorem sz233 : szOf Tryz.prog 233 = 1 := by kernel_rfl
theorem ag233 : isAgg Tryz.prog 233 = false := by kernel_rfl
theorem ze233 : zero Tryz.prog 233 = some [V.nilfn] := by kernel_rfl
theorem sz234 : szOf Tryz.prog 234 = 1 := by kernel_rfl
theorem ag234 : isAgg Tryz.prog 234 = false := by kernel_rfl
theorem ze234 : zero Tryz.prog 234 = some [V.nilfn] := by kernel_rfl
theorem sz235 : szOf Tryz.prog 235 = 1 := by kernel_rfl
theorem ag235 : isAgg Tryz.prog 235 = false := by kernel_rfl
theorem ze235 : zero Tryz.prog 235 = some [V.nilfn] := by kernel_rfl
theorem u236 : Tryz.prog.underlying 236 = some (.slice 5) := by kernel_rfl
theorem sz236 : szOf Tryz.prog 236 = 1 := by kernel_rfl
theorem ag236 : isAgg Tryz.prog 236 = false := by kernel_rfl
theorem eo236 : elemOf Tryz.prog 236 = 5 := by kernel_rfl
theorem es236 : elemSz Tryz.prog 236 = 1 := by kernel_rfl
theorem gr236 : growB Tryz.prog 236 = true := by kernel_rfl
theorem df236 : dflt Tryz.prog 236 = V.int .u8 0 := by kernel_rfl
theorem ze236 : zero Tryz.prog 236 = some [V.slc true 1 []] := by kernel_rfl
theorem sz237 : szOf Tryz.prog 237 = 1 := by kernel_rfl
theorem ag237 : isAgg Tryz.prog 237 = false := by kernel_rfl
theorem ze237 : zero Tryz.prog 237 = some [V.nilfn] := by kernel_rfl
theorem u238 : Tryz.prog.underlying 238 = some (.slice 39) := by kernel_rfl
theorem sz238 : szOf Tryz.prog 238 = 1 := by kernel_rfl
theorem ag238 : isAgg Tryz.prog 238 = false := by kernel_rfl
theorem eo238 : elemOf Tryz.prog 238 = 39 := by kernel_rfl
theorem es238 : elemSz Tryz.prog 238 = 2 := by kernel_rfl
theorem gr238 : growB Tryz.prog 238 = true := by kernel_rfl
theorem df238 : dflt Tryz.prog 238 = V.agg [V.slc false 1 [], V.slc false 1 []] := by kernel_rfl
theorem ze238 : zero Tryz.prog 238 = some [V.slc true 2 []] := by kernel_rfl
theorem sz239 : szOf Tryz.prog 239 = 1 := by kernel_rfl
theorem ag239 : isAgg Tryz.prog 239 = false := by kernel_rfl
theorem ze239 : zero Tryz.prog 239 = some [V.nilfn] := by kernel_rfl
theorem sz240 : szOf Tryz.prog 240 = 1 := by kernel_rfl
theorem ag240 : isAgg Tryz.prog 240 = false := by kernel_rfl
theorem ze240 : zero Tryz.prog 240 = some [V.nilfn] := by kernel_rfl
theorem sz241 : szOf Tryz.prog 241 = 1 := by kernel_rfl
theorem ag241 : isAgg Tryz.prog 241 = false := by kernel_rfl
theorem ze241 : zero Tryz.prog 241 = some [V.nilfn] := by kernel_rfl
theorem sz242 : szOf Tryz.prog 242 = 1 := by kernel_rfl
theorem ag242 : isAgg Tryz.prog 242 = false := by kernel_rfl
theorem ze242 : zero Tryz.prog 242 = some [V.nilfn] := by kernel_rfl
theorem sz244 : szOf Tryz.prog 244 = 1 := by kernel_rfl
theorem ag244 : isAgg Tryz.prog 244 = false := by kernel_rfl
theorem ze244 : zero Tryz.prog 244 = some [V.nilfn] := by kernel_rfl
theorem u245 : Tryz.prog.underlying 245 = some (.map 3 3) := by kernel_rfl
theorem sz245 : szOf Tryz.prog 245 = 1 := by kernel_rfl
theorem ag245 : isAgg Tryz.prog 245 = false := by kernel_rfl
theorem u246 : Tryz.prog.underlying 246 = some (.map 247 3) := by kernel_rfl
theorem sz246 : szOf Tryz.prog 246 = 1 := by kernel_rfl
theorem ag246 : isAgg Tryz.prog 246 = false := by kernel_rfl
theorem xa247 (H : Hint) (d : Nat) (ty : TypeId) (ps : Array (Nat × Operand)) (pos : String) (aft : Array Edge) (g : Option (Nat × Bool)) : isX Tryz.prog H { dst := some d, op := .build 247 ps, type := ty, pos := pos, after := aft, guard := g } = memN d H.arrs := by kernel_rfl
theorem u247 : Tryz.prog.underlying 247 = some (.array 4 3) := by kernel_rfl
theorem sz247 : szOf Tryz.prog 247 = 4 := by kernel_rfl
theorem ag247 : isAgg Tryz.prog 247 = true := by kernel_rfl
theorem eo247 : elemOf Tryz.prog 247 = 3 := by kernel_rfl
theorem es247 : elemSz Tryz.prog 247 = 1 := by kernel_rfl
theorem ze247 : zero Tryz.prog 247 = some [V.int .i64 0, V.int .i64 0, V.int .i64 0, V.int .i64 0] := by kernel_rfl
theorem u248 : Tryz.prog.underlying 248 = some (.slice 9) := by kernel_rfl
theorem sz248 : szOf Tryz.prog 248 = 1 := by kernel_rfl
theorem ag248 : isAgg Tryz.prog 248 = false := by kernel_rfl
theorem eo248 : elemOf Tryz.prog 248 = 9 := by kernel_rfl
theorem es248 : elemSz Tryz.prog 248 = 1 := by kernel_rfl
theorem gr248 : growB Tryz.prog 248 = true := by kernel_rfl
theorem df248 : dflt Tryz.prog 248 = V.str ⟨#[]⟩ := by kernel_rfl
theorem ze248 : zero Tryz.prog 248 = some [V.slc true 1 []] := by kernel_rfl
theorem u249 : Tryz.prog.underlying 249 = some (.map 178 3) := by kernel_rfl
theorem sz249 : szOf Tryz.prog 249 = 1 := by kernel_rfl
theorem ag249 : isAgg Tryz.prog 249 = false := by kernel_rfl
theorem sz250 : szOf Tryz.prog 250 = 1 := by kernel_rfl
theorem ag250 : isAgg Tryz.prog 250 = false := by kernel_rfl
theorem ze250 : zero Tryz.prog 250 = some [V.nilfn] := by kernel_rfl
theorem sz251 : szOf Tryz.prog 251 = 1 := by kernel_rfl
theorem ag251 : isAgg Tryz.prog 251 = false := by kernel_rfl
theorem ze251 : zero Tryz.prog 251 = some [V.nilfn] := by kernel_rfl
theorem sz252 : szOf Tryz.prog 252 = 1 := by kernel_rfl
theorem ag252 : isAgg Tryz.prog 252 = false := by kernel_rfl
theorem ze252 : zero Tryz.prog 252 = some [V.nilfn] := by kernel_rfl
theorem sz253 : szOf Tryz.prog 253 = 1 := by kernel_rfl
theorem ag253 : isAgg Tryz.prog 253 = false := by kernel_rfl
theorem ze253 : zero Tryz.prog 253 = some [V.nilfn] := by kernel_rfl
theorem sz254 : szOf Tryz.prog 254 = 1 := by kernel_rfl
theorem ag254 : isAgg Tryz.prog 254 = false := by kernel_rfl
theorem ze254 : zero Tryz.prog 254 = some [V.nilfn] := by kernel_rfl
theorem sz255 : szOf Tryz.prog 255 = 1 := by kernel_rfl
theorem ag255 : isAgg Tryz.prog 255 = false := by kernel_rfl
theorem ze255 : zero Tryz.prog 255 = some [V.nilfn] := by kernel_rfl
theorem xa256 (H : Hint) (d : Nat) (ty : TypeId) (ps : Array (Nat × Operand)) (pos : String) (aft : Array Edge) (g : Option (Nat × Bool)) : isX Tryz.prog H { dst := some d, op := .build 256 ps, type := ty, pos := pos, after := aft, guard := g } = memN d H.arrs := by kernel_rfl
theorem u256 : Tryz.prog.underlying 256 = some (.array 2 5) := by kernel_rfl
theorem sz256 : szOf Tryz.prog 256 = 2 := by kernel_rfl
theorem ag256 : isAgg Tryz.prog 256 = true := by kernel_rfl
theorem eo256 : elemOf Tryz.prog 256 = 5 := by kernel_rfl
theorem es256 : elemSz Tryz.prog 256 = 1 := by kernel_rfl
theorem ze256 : zero Tryz.prog 256 = some [V.int .u8 0, V.int .u8 0] := by kernel_rfl
theorem u257 : Tryz.prog.underlying 257 = some (.slice 256) := by kernel_rfl
theorem sz257 : szOf Tryz.prog 257 = 1 := by kernel_rfl
theorem ag257 : isAgg Tryz.prog 257 = false := by kernel_rfl
theorem eo257 : elemOf Tryz.prog 257 = 256 := by kernel_rfl
theorem es257 : elemSz Tryz.prog 257 = 2 := by kernel_rfl
theorem gr257 : growB Tryz.prog 257 = true := by kernel_rfl
theorem df257 : dflt Tryz.prog 257 = V.agg [V.int .u8 0, V.int .u8 0] := by kernel_rfl
theorem ze257 : zero Tryz.prog 257 = some [V.slc true 2 []] := by kernel_rfl
theorem sz258 : szOf Tryz.prog 258 = 1 := by kernel_rfl
theorem ag258 : isAgg Tryz.prog 258 = false := by kernel_rfl
theorem ze258 : zero Tryz.prog 258 = some [V.nilfn] := by kernel_rfl
theorem sz259 : szOf Tryz.prog 259 = 1 := by kernel_rfl
theorem ag259 : isAgg Tryz.prog 259 = false := by kernel_rfl
theorem ze259 : zero Tryz.prog 259 = some [V.nilfn] := by kernel_rfl
theorem sz261 : szOf Tryz.prog 261 = 1 := by kernel_rfl
theorem ag261 : isAgg Tryz.prog 261 = false := by kernel_rfl
theorem ze261 : zero Tryz.prog 261 = some [V.nilfn] := by kernel_rfl
theorem sz263 : szOf Tryz.prog 263 = 1 := by kernel_rfl
theorem ag263 : isAgg Tryz.prog 263 = false := by kernel_rfl
theorem ze263 : zero Tryz.prog 263 = some [V.nilfn] := by kernel_rfl
theorem sz264 : szOf Tryz.prog 264 = 1 := by kernel_rfl
theorem ag264 : isAgg Tryz.prog 264 = false := by kernel_rfl
theorem ze264 : zero Tryz.prog 264 = some [V.nilfn] := by kernel_rfl
theorem sz265 : szOf Tryz.prog 265 = 1 := by kernel_rfl
theorem ag265 : isAgg Tryz.prog 265 = false := by kernel_rfl
theorem ze265 : zero Tryz.prog 265 = some [V.nilfn] := by kernel_rfl
theorem sz266 : szOf Tryz.prog 266 = 1 := by kernel_rfl
theorem ag266 : isAgg Tryz.prog 266 = false := by kernel_rfl
theorem ze266 : zero Tryz.prog 266 = some [V.nilfn] := by kernel_rfl
theorem sz267 : szOf Tryz.prog 267 = 1 := by kernel_rfl
theorem ag267 : isAgg Tryz.prog 267 = false := by kernel_rfl
theorem ze267 : zero Tryz.prog 267 = some [V.nilfn] := by kernel_rfl
theorem u268 : Tryz.prog.underlying 268 = some (.map 223 3) := by kernel_rfl
theorem sz268 : szOf Tryz.prog 268 = 1 := by kernel_rfl
theorem ag268 : isAgg Tryz.prog 268 = false := by kernel_rfl
theorem sz269 : szOf Tryz.prog 269 = 1 := by kernel_rfl
theorem ag269 : isAgg Tryz.prog 269 = false := by kernel_rfl
theorem ze269 : zero Tryz.prog 269 = some [V.nilfn] := by kernel_rfl
theorem sz270 : szOf Tryz.prog 270 = 1 := by kernel_rfl
theorem ag270 : isAgg Tryz.prog 270 = false := by kernel_rfl
theorem ze270 : zero Tryz.prog 270 = some [V.nilfn] := by kernel_rfl
theorem sz271 : szOf Tryz.prog 271 = 1 := by kernel_rfl
theorem ag271 : isAgg Tryz.prog 271 = false := by kernel_rfl
theorem ze271 : zero Tryz.prog 271 = some [V.nilfn] := by kernel_rfl
theorem sz272 : szOf Tryz.prog 272 = 1 := by kernel_rfl
theorem ag272 : isAgg Tryz.prog 272 = false := by kernel_rfl
theorem ze272 : zero Tryz.prog 272 = some [V.nilfn] := by kernel_rfl
theorem sz273 : szOf Tryz.prog 273 = 1 := by kernel_rfl
theorem ag273 : isAgg Tryz.prog 273 = false := by kernel_rfl
theorem ze273 : zero Tryz.prog 273 = some [V.nilfn] := by kernel_rfl
theorem sz274 : szOf Tryz.prog 274 = 1 := by kernel_rfl
theorem ag274 : isAgg Tryz.prog 274 = false := by kernel_rfl
theorem ze274 : zero Tryz.prog 274 = some [V.nilfn] := by kernel_rfl
theorem u275 : Tryz.prog.underlying 275 = some (.int .u64) := by kernel_rfl
theorem sz275 : szOf Tryz.prog 275 = 1 := by kernel_rfl
theorem ag275 : isAgg Tryz.prog 275 = false := by kernel_rfl
theorem ze275 : zero Tryz.prog 275 = some [V.int .u64 0] := by kernel_rfl
theorem sz276 : szOf Tryz.prog 276 = 2 := by kernel_rfl
theorem ag276 : isAgg Tryz.prog 276 = true := by kernel_rfl
theorem ze276 : zero Tryz.prog 276 = some [V.int .i64 0, V.int .u64 0] := by kernel_rfl
theorem la276 : layOf Tryz.prog 276 = some [(3, 0, 1), (275, 1, 1)] := by kernel_rfl
theorem bd276 (H : Hint) (d : Nat) (ty : TypeId) (ps : Array (Nat × Operand)) (s : St) : evV Tryz.prog H d ty (.build 276 ps) s = aggO (buildL Tryz.prog [(3, 0, 1), (275, 1, 1)] s [V.int .i64 0, V.int .u64 0] ps.toList) := build_lay la276 ze276
theorem xb276 (H : Hint) (d : Nat) (ty : TypeId) (ps : Array (Nat × Operand)) (pos : String) (aft : Array Edge) (g : Option (Nat × Bool)) : isX Tryz.prog H { dst := some d, op := .build 276 ps, type := ty, pos := pos, after := aft, guard := g } = !memN d H.arrs := by kernel_rfl
theorem fa276_0 (v : V) : vFieldAddr Tryz.prog 276 0 v = faddr 0 v := by kernel_rfl
theorem fg276_0 (s : St) (v : V) : vField Tryz.prog s 276 0 v = fget 0 1 false v := by kernel_rfl
theorem fa276_1 (v : V) : vFieldAddr Tryz.prog 276 1 v = faddr 1 v := by kernel_rfl
theorem fg276_1 (s : St) (v : V) : vField Tryz.prog s 276 1 v = fget 1 1 false v := by kernel_rfl
theorem ev276 (x0 y0 : Int) (x1 y1 : Int) : eqV Tryz.prog 276 (.agg [V.int .i64 x0, V.int .u64 x1]) (.agg [V.int .i64 y0, V.int .u64 y1]) = some ((x0 == y0) && ((x1 == y1) && true)) := by kernel_rfl
theorem eg276 : Tryz.prog.eqGuardType Tryz.prog.depth 276 = false := by kernel_rfl
theorem sz277 : szOf Tryz.prog 277 = 2 := by kernel_rfl
theorem ag277 : isAgg Tryz.prog 277 = true := by kernel_rfl
theorem ze277 : zero Tryz.prog 277 = some [V.int .i64 0, V.int .u64 0] := by kernel_rfl
theorem la277 : layOf Tryz.prog 277 = some [(3, 0, 1), (275, 1, 1)] := by kernel_rfl
theorem bd277 (H : Hint) (d : Nat) (ty : TypeId) (ps : Array (Nat × Operand)) (s : St) : evV Tryz.prog H d ty (.build 277 ps) s = aggO (buildL Tryz.prog [(3, 0, 1), (275, 1, 1)] s [V.int .i64 0, V.int .u64 0] ps.toList) := build_lay la277 ze277
theorem xb277 (H : Hint) (d : Nat) (ty : TypeId) (ps : Array (Nat × Operand)) (pos : String) (aft : Array Edge) (g : Option (Nat × Bool)) : isX Tryz.prog H { dst := some d, op := .build 277 ps, type := ty, pos := pos, after := aft, guard := g } = !memN d H.arrs := by kernel_rfl
theorem fa277_0 (v : V) : vFieldAddr Tryz.prog 277 0 v = faddr 0 v := by kernel_rfl
theorem fg277_0 (s : St) (v : V) : vField Tryz.prog s 277 0 v = fget 0 1 false v := by kernel_rfl
theorem fa277_1 (v : V) : vFieldAddr Tryz.prog 277 1 v = faddr 1 v := by kernel_rfl
theorem fg277_1 (s : St) (v : V) : vField Tryz.prog s 277 1 v = fget 1 1 false v := by kernel_rfl
theorem ev277 (x0 y0 : Int) (x1 y1 : Int) : eqV Tryz.prog 277 (.agg [V.int .i64 x0, V.int .u64 x1]) (.agg [V.int .i64 y0, V.int .u64 y1]) = some ((x0 == y0) && ((x1 == y1) && true)) := by kernel_rfl
theorem eg277 : Tryz.prog.eqGuardType Tryz.prog.depth 277 = false := by kernel_rfl
theorem sz278 : szOf Tryz.prog 278 = 1 := by kernel_rfl
theorem ag278 : isAgg Tryz.prog 278 = false := by kernel_rfl
theorem ze278 : zero Tryz.prog 278 = some [V.nilfn] := by kernel_rfl
theorem u279 : Tryz.prog.underlying 279 = some (.slice 277) := by kernel_rfl
theorem sz279 : szOf Tryz.prog 279 = 1 := by kernel_rfl
theorem ag279 : isAgg Tryz.prog 279 = false := by kernel_rfl
theorem eo279 : elemOf Tryz.prog 279 = 277 := by kernel_rfl
theorem es279 : elemSz Tryz.prog 279 = 2 := by kernel_rfl
theorem gr279 : growB Tryz.prog 279 = true := by kernel_rfl
theorem df279 : dflt Tryz.prog 279 = V.agg [V.int .i64 0, V.int .u64 0] := by kernel_rfl
theorem ze279 : zero Tryz.prog 279 = some [V.slc true 2 []] := by kernel_rfl
theorem sz281 : szOf Tryz.prog 281 = 1 := by kernel_rfl
theorem ag281 : isAgg Tryz.prog 281 = false := by kernel_rfl
theorem ze281 : zero Tryz.prog 281 = some [V.nilfn] := by kernel_rfl
theorem sz282 : szOf Tryz.prog 282 = 1 := by kernel_rfl
theorem ag282 : isAgg Tryz.prog 282 = false := by kernel_rfl
theorem ze282 : zero Tryz.prog 282 = some [V.nilfn] := by kernel_rfl
theorem sz283 : szOf Tryz.prog 283 = 1 := by kernel_rfl
theorem ag283 : isAgg Tryz.prog 283 = false := by kernel_rfl
theorem ze283 : zero Tryz.prog 283 = some [V.nilfn] := by kernel_rfl
theorem sz284 : szOf Tryz.prog 284 = 1 := by kernel_rfl
theorem ag284 : isAgg Tryz.prog 284 = false := by kernel_rfl
theorem ze284 : zero Tryz.prog 284 = some [V.nilfn] := by kernel_rfl
theorem sz285 : szOf Tryz.prog 285 = 1 := by kernel_rfl
theorem ag285 : isAgg Tryz.prog 285 = false := by kernel_rfl
theorem ze285 : zero Tryz.prog 285 = some [V.nilfn] := by kernel_rfl
theorem sz286 : szOf Tryz.prog 286 = 1 := by kernel_rfl
theorem ag286 : isAgg Tryz.prog 286 = false := by kernel_rfl
theorem ze286 : zero Tryz.prog 286 = some [V.nilfn] := by kernel_rfl
theorem sz287 : szOf Tryz.prog 287 = 1 := by kernel_rfl
theorem ag287 : isAgg Tryz.prog 287 = false := by kernel_rfl
theorem ze287 : zero Tryz.prog 287 = some [V.nilfn] := by kernel_rfl
theorem sz288 : szOf Tryz.prog 288 = 1 := by kernel_rfl
theorem ag288 : isAgg Tryz.prog 288 = false := by kernel_rfl
theorem ze288 : zero Tryz.prog 288 = some [V.nilfn] := by kernel_rfl
theorem sz289 : szOf Tryz.prog 289 = 1 := by kernel_rfl
theorem ag289 : isAgg Tryz.prog 289 = false := by kernel_rfl
theorem ze289 : zero Tryz.prog 289 = some [V.nilfn] := by kernel_rfl
theorem sz290 : szOf Tryz.prog 290 = 1 := by kernel_rfl
theorem ag290 : isAgg Tryz.prog 290 = false := by kernel_rfl
theorem ze290 : zero Tryz.prog 290 = some [V.nilfn] := by kernel_rfl
theorem sz291 : szOf Tryz.prog 291 = 1 := by kernel_rfl
theorem ag291 : isAgg Tryz.prog 291 = false := by kernel_rfl
theorem ze291 : zero Tryz.prog 291 = some [V.nilfn] := by kernel_rfl
theorem sz292 : szOf Tryz.prog 292 = 1 := by kernel_rfl
theorem ag292 : isAgg Tryz.prog 292 = false := by kernel_rfl
theorem ze292 : zero Tryz.prog 292 = some [V.nilfn] := by kernel_rfl
theorem sz293 : szOf Tryz.prog 293 = 1 := by kernel_rfl
theorem ag293 : isAgg Tryz.prog 293 = false := by kernel_rfl
theorem ze293 : zero Tryz.prog 293 = some [V.nilfn] := by kernel_rfl
theorem sz294 : szOf Tryz.prog 294 = 1 := by kernel_rfl
theorem ag294 : isAgg Tryz.prog 294 = false := by kernel_rfl
theorem ze294 : zero Tryz.prog 294 = some [V.nilfn] := by kernel_rfl
theorem sz295 : szOf Tryz.prog 295 = 3 := by kernel_rfl
theorem ag295 : isAgg Tryz.prog 295 = true := by kernel_rfl
theorem ze295 : zero Tryz.prog 295 = some [V.int .i64 0, V.slc true 1 [], V.bool false] := by kernel_rfl
theorem la295 : layOf Tryz.prog 295 = some [(3, 0, 1), (49, 1, 1), (4, 2, 1)] := by kernel_rfl
theorem bd295 (H : Hint) (d : Nat) (ty : TypeId) (ps : Array (Nat × Operand)) (s : St) : evV Tryz.prog H d ty (.build 295 ps) s = aggO (buildL Tryz.prog [(3, 0, 1), (49, 1, 1), (4, 2, 1)] s [V.int .i64 0, V.slc true 1 [], V.bool false] ps.toList) := build_lay la295 ze295
theorem xb295 (H : Hint) (d : Nat) (ty : TypeId) (ps : Array (Nat × Operand)) (pos : String) (aft : Array Edge) (g : Option (Nat × Bool)) : isX Tryz.prog H { dst := some d, op := .build 295 ps, type := ty, pos := pos, after := aft, guard := g } = !memN d H.arrs := by kernel_rfl
theorem fa295_0 (v : V) : vFieldAddr Tryz.prog 295 0 v = faddr 0 v := by kernel_rfl
theorem fg295_0 (s : St) (v : V) : vField Tryz.prog s 295 0 v = fget 0 1 false v := by kernel_rfl
theorem fa295_1 (v : V) : vFieldAddr Tryz.prog 295 1 v = faddr 1 v := by kernel_rfl
theorem fg295_1 (s : St) (v : V) : vField Tryz.prog s 295 1 v = fget 1 1 false v := by kernel_rfl
theorem fa295_2 (v : V) : vFieldAddr Tryz.prog 295 2 v = faddr 2 v := by kernel_rfl
theorem fg295_2 (s : St) (v : V) : vField Tryz.prog s 295 2 v = fget 2 1 false v := by kernel_rfl
theorem sz296 : szOf Tryz.prog 296 = 3 := by kernel_rfl
theorem ag296 : isAgg Tryz.prog 296 = true := by kernel_rfl
theorem ze296 : zero Tryz.prog 296 = some [V.int .i64 0, V.slc true 1 [], V.bool false] := by kernel_rfl
theorem la296 : layOf Tryz.prog 296 = some [(3, 0, 1), (49, 1, 1), (4, 2, 1)] := by kernel_rfl
theorem bd296 (H : Hint) (d : Nat) (ty : TypeId) (ps : Array (Nat × Operand)) (s : St) : evV Tryz.prog H d ty (.build 296 ps) s = aggO (buildL Tryz.prog [(3, 0, 1), (49, 1, 1), (4, 2, 1)] s [V.int .i64 0, V.slc true 1 [], V.bool false] ps.toList) := build_lay la296 ze296
theorem xb296 (H : Hint) (d : Nat) (ty : TypeId) (ps : Array (Nat × Operand)) (pos : String) (aft : Array Edge) (g : Option (Nat × Bool)) : isX Tryz.prog H { dst := some d, op := .build 296 ps, type := ty, pos := pos, after := aft, guard := g } = !memN d H.arrs := by kernel_rfl
theorem fa296_0 (v : V) : vFieldAddr Tryz.prog 296 0 v = faddr 0 v := by kernel_rfl
theorem fg296_0 (s : St) (v : V) : vField Tryz.prog s 296 0 v = fget 0 1 false v := by kernel_rfl
theorem fa296_1 (v : V) : vFieldAddr Tryz.prog 296 1 v = faddr 1 v := by kernel_rfl
theorem fg296_1 (s : St) (v : V) : vField Tryz.prog s 296 1 v = fget 1 1 false v := by kernel_rfl
theorem fa296_2 (v : V) : vFieldAddr Tryz.prog 296 2 v = faddr 2 v := by kernel_rfl
theorem fg296_2 (s : St) (v : V) : vField Tryz.prog s 296 2 v = fget 2 1 false v := by kernel_rfl
theorem u297 : Tryz.prog.underlying 297 = some (.slice 296) := by kernel_rfl
theorem sz297 : szOf Tryz.prog 297 = 1 := by kernel_rfl
theorem ag297 : isAgg Tryz.prog 297 = false := by kernel_rfl
theorem eo297 : elemOf Tryz.prog 297 = 296 := by kernel_rfl
theorem es297 : elemSz Tryz.prog 297 = 3 := by kernel_rfl
theorem gr297 : growB Tryz.prog 297 = true := by kernel_rfl
theorem df297 : dflt Tryz.prog 297 = V.agg [V.int .i64 0, V.slc false 1 [], V.bool false] := by kernel_rfl
theorem ze297 : zero Tryz.prog 297 = some [V.slc true 3 []] := by kernel_rfl
theorem sz298 : szOf Tryz.prog 298 = 1 := by kernel_rfl
theorem ag298 : isAgg Tryz.prog 298 = false := by kernel_rfl
theorem ze298 : zero Tryz.prog 298 = some [V.nilfn] := by kernel_rfl
theorem sz299 : szOf Tryz.prog 299 = 1 := by kernel_rfl
theorem ag299 : isAgg Tryz.prog 299 = false := by kernel_rfl
theorem ze299 : zero Tryz.prog 299 = some [V.nilfn] := by kernel_rfl
theorem sz300 : szOf Tryz.prog 300 = 1 := by kernel_rfl
theorem ag300 : isAgg Tryz.prog 300 = false := by kernel_rfl
theorem ze300 : zero Tryz.prog 300 = some [V.nilfn] := by kernel_rfl
theorem sz301 : szOf Tryz.prog 301 = 1 := by kernel_rfl
theorem ag301 : isAgg Tryz.prog 301 = false := by kernel_rfl
theorem ze301 : zero Tryz.prog 301 = some [V.nilfn] := by kernel_rfl
theorem u302 : Tryz.prog.underlying 302 = some (.map 277 3) := by kernel_rfl
theorem sz302 : szOf Tryz.prog 302 = 1 := by kernel_rfl
theorem ag302 : isAgg Tryz.prog 302 = false := by kernel_rfl
theorem sz303 : szOf Tryz.prog 303 = 1 := by kernel_rfl
theorem ag303 : isAgg Tryz.prog 303 = false := by kernel_rfl
theorem ze303 : zero Tryz.prog 303 = some [V.nilfn] := by kernel_rfl
theorem u304 : Tryz.prog.underlying 304 = some (.pointer 306) := by kernel_rfl
theorem sz304 : szOf Tryz.prog 304 = 1 := by kernel_rfl
theorem ag304 : isAgg Tryz.prog 304 = false := by kernel_rfl
theorem ze304 : zero Tryz.prog 304 = some [V.nilp] := by kernel_rfl
theorem sz305 : szOf Tryz.prog 305 = 2 := by kernel_rfl
theorem ag305 : isAgg Tryz.prog 305 = true := by kernel_rfl
theorem ze305 : zero Tryz.prog 305 = some [V.nilp, V.slc true 1 []] := by kernel_rfl
theorem la305 : layOf Tryz.prog 305 = some [(304, 0, 1), (236, 1, 1)] := by kernel_rfl
theorem bd305 (H : Hint) (d : Nat) (ty : TypeId) (ps : Array (Nat × Operand)) (s : St) : evV Tryz.prog H d ty (.build 305 ps) s = aggO (buildL Tryz.prog [(304, 0, 1), (236, 1, 1)] s [V.nilp, V.slc true 1 []] ps.toList) := build_lay la305 ze305
theorem xb305 (H : Hint) (d : Nat) (ty : TypeId) (ps : Array (Nat × Operand)) (pos : String) (aft : Array Edge) (g : Option (Nat × Bool)) : isX Tryz.prog H { dst := some d, op := .build 305 ps, type := ty, pos := pos, after := aft, guard := g } = !memN d H.arrs := by kernel_rfl
theorem fa305_0 (v : V) : vFieldAddr Tryz.prog 305 0 v = faddr 0 v := by kernel_rfl
theorem fg305_0 (s : St) (v : V) : vField Tryz.prog s 305 0 v = fget 0 1 false v := by kernel_rfl
theorem fa305_1 (v : V) : vFieldAddr Tryz.prog 305 1 v = faddr 1 v := by kernel_rfl
theorem fg305_1 (s : St) (v : V) : vField Tryz.prog s 305 1 v = fget 1 1 false v := by kernel_rfl
theorem sz306 : szOf Tryz.prog 306 = 2 := by kernel_rfl
theorem ag306 : isAgg Tryz.prog 306 = true := by kernel_rfl
theorem ze306 : zero Tryz.prog 306 = some [V.nilp, V.slc true 1 []] := by kernel_rfl
theorem la306 : layOf Tryz.prog 306 = some [(304, 0, 1), (236, 1, 1)] := by kernel_rfl
theorem bd306 (H : Hint) (d : Nat) (ty : TypeId) (ps : Array (Nat × Operand)) (s : St) : evV Tryz.prog H d ty (.build 306 ps) s = aggO (buildL Tryz.prog [(304, 0, 1), (236, 1, 1)] s [V.nilp, V.slc true 1 []] ps.toList) := build_lay la306 ze306
theorem xb306 (H : Hint) (d : Nat) (ty : TypeId) (ps : Array (Nat × Operand)) (pos : String) (aft : Array Edge) (g : Option (Nat × Bool)) : isX Tryz.prog H { dst := some d, op := .build 306 ps, type := ty, pos := pos, after := aft, guard := g } = !memN d H.arrs := by kernel_rfl
theorem fa306_0 (v : V) : vFieldAddr Tryz.prog 306 0 v = faddr 0 v := by kernel_rfl
theorem fg306_0 (s : St) (v : V) : vField Tryz.prog s 306 0 v = fget 0 1 false v := by kernel_rfl
theorem fa306_1 (v : V) : vFieldAddr Tryz.prog 306 1 v = faddr 1 v := by kernel_rfl
theorem fg306_1 (s : St) (v : V) : vField Tryz.prog s 306 1 v = fget 1 1 false v := by kernel_rfl
theorem sz310 : szOf Tryz.prog 310 = 1 := by kernel_rfl
theorem ag310 : isAgg Tryz.prog 310 = false := by kernel_rfl
theorem ze310 : zero Tryz.prog 310 = some [V.nilfn] := by kernel_rfl
theorem sz311 : szOf Tryz.prog 311 = 1 := by kernel_rfl
theorem ag311 : isAgg Tryz.prog 311 = false := by kernel_rfl
theorem ze311 : zero Tryz.prog 311 = some [V.nilfn] := by kernel_rfl
theorem u312 : Tryz.prog.underlying 312 = some (.pointer 5) := by kernel_rfl
theorem sz312 : szOf Tryz.prog 312 = 1 := by kernel_rfl
theorem ag312 : isAgg Tryz.prog 312 = false := by kernel_rfl
theorem ze312 : zero Tryz.prog 312 = some [V.nilp] := by kernel_rfl
theorem sz314 : szOf Tryz.prog 314 = 1 := by kernel_rfl
theorem ag314 : isAgg Tryz.prog 314 = false := by kernel_rfl
theorem ze314 : zero Tryz.prog 314 = some [V.nilfn] := by kernel_rfl
theorem sz315 : szOf Tryz.prog 315 = 1 := by kernel_rfl
theorem ag315 : isAgg Tryz.prog 315 = false := by kernel_rfl
theorem ze315 : zero Tryz.prog 315 = some [V.nilfn] := by kernel_rfl
theorem sz316 : szOf Tryz.prog 316 = 4 := by kernel_rfl
theorem ag316 : isAgg Tryz.prog 316 = true := by kernel_rfl
theorem ze316 : zero Tryz.prog 316 = some [V.nilp, V.nilp, V.nilp, V.str ⟨#[]⟩] := by kernel_rfl
theorem la316 : layOf Tryz.prog 316 = some [(17, 0, 1), (17, 1, 1), (17, 2, 1), (9, 3, 1)] := by kernel_rfl
theorem bd316 (H : Hint) (d : Nat) (ty : TypeId) (ps : Array (Nat × Operand)) (s : St) : evV Tryz.prog H d ty (.build 316 ps) s = aggO (buildL Tryz.prog [(17, 0, 1), (17, 1, 1), (17, 2, 1), (9, 3, 1)] s [V.nilp, V.nilp, V.nilp, V.str ⟨#[]⟩] ps.toList) := build_lay la316 ze316
theorem xb316 (H : Hint) (d : Nat) (ty : TypeId) (ps : Array (Nat × Operand)) (pos : String) (aft : Array Edge) (g : Option (Nat × Bool)) : isX Tryz.prog H { dst := some d, op := .build 316 ps, type := ty, pos := pos, after := aft, guard := g } = !memN d H.arrs := by kernel_rfl
theorem fa316_0 (v : V) : vFieldAddr Tryz.prog 316 0 v = faddr 0 v := by kernel_rfl
theorem fg316_0 (s : St) (v : V) : vField Tryz.prog s 316 0 v = fget 0 1 false v := by kernel_rfl
theorem fa316_1 (v : V) : vFieldAddr Tryz.prog 316 1 v = faddr 1 v := by kernel_rfl
theorem fg316_1 (s : St) (v : V) : vField Tryz.prog s 316 1 v = fget 1 1 false v := by kernel_rfl
theorem fa316_2 (v : V) : vFieldAddr Tryz.prog 316 2 v = faddr 2 v := by kernel_rfl
theorem fg316_2 (s : St) (v : V) : vField Tryz.prog s 316 2 v = fget 2 1 false v := by kernel_rfl
theorem fa316_3 (v : V) : vFieldAddr Tryz.prog 316 3 v = faddr 3 v := by kernel_rfl
theorem fg316_3 (s : St) (v : V) : vField Tryz.prog s 316 3 v = fget 3 1 false v := by kernel_rfl
theorem sz317 : szOf Tryz.prog 317 = 4 := by kernel_rfl
theorem ag317 : isAgg Tryz.prog 317 = true := by kernel_rfl
theorem ze317 : zero Tryz.prog 317 = some [V.nilp, V.nilp, V.nilp, V.str ⟨#[]⟩] := by kernel_rfl
theorem la317 : layOf Tryz.prog 317 = some [(17, 0, 1), (17, 1, 1), (17, 2, 1), (9, 3, 1)] := by kernel_rfl
theorem bd317 (H : Hint) (d : Nat) (ty : TypeId) (ps : Array (Nat × Operand)) (s : St) : evV Tryz.prog H d ty (.build 317 ps) s = aggO (buildL Tryz.prog [(17, 0, 1), (17, 1, 1), (17, 2, 1), (9, 3, 1)] s [V.nilp, V.nilp, V.nilp, V.str ⟨#[]⟩] ps.toList) := build_lay la317 ze317
theorem xb317 (H : Hint) (d : Nat) (ty : TypeId) (ps : Array (Nat × Operand)) (pos : String) (aft : Array Edge) (g : Option (Nat × Bool)) : isX Tryz.prog H { dst := some d, op := .build 317 ps, type := ty, pos := pos, after := aft, guard := g } = !memN d H.arrs := by kernel_rfl
theorem fa317_0 (v : V) : vFieldAddr Tryz.prog 317 0 v = faddr 0 v := by kernel_rfl
theorem fg317_0 (s : St) (v : V) : vField Tryz.prog s 317 0 v = fget 0 1 false v := by kernel_rfl
theorem fa317_1 (v : V) : vFieldAddr Tryz.prog 317 1 v = faddr 1 v := by kernel_rfl
theorem fg317_1 (s : St) (v : V) : vField Tryz.prog s 317 1 v = fget 1 1 false v := by kernel_rfl
theorem fa317_2 (v : V) : vFieldAddr Tryz.prog 317 2 v = faddr 2 v := by kernel_rfl
theorem fg317_2 (s : St) (v : V) : vField Tryz.prog s 317 2 v = fget 2 1 false v := by kernel_rfl
theorem fa317_3 (v : V) : vFieldAddr Tryz.prog 317 3 v = faddr 3 v := by kernel_rfl
theorem fg317_3 (s : St) (v : V) : vField Tryz.prog s 317 3 v = fget 3 1 false v := by kernel_rfl
theorem xa318 (H : Hint) (d : Nat) (ty : TypeId) (ps : Array (Nat × Operand)) (pos : String) (aft : Array Edge) (g : Option (Nat × Bool)) : isX Tryz.prog H { dst := some d, op := .build 318 ps, type := ty, pos := pos, after := aft, guard := g } = memN d H.arrs := by kernel_rfl
theorem u318 : Tryz.prog.underlying 318 = some (.array 0 16) := by kernel_rfl
theorem sz318 : szOf Tryz.prog 318 = 0 := by kernel_rfl
theorem ag318 : isAgg Tryz.prog 318 = true := by kernel_rfl
theorem eo318 : elemOf Tryz.prog 318 = 16 := by kernel_rfl
theorem es318 : elemSz Tryz.prog 318 = 1 := by kernel_rfl
theorem ze318 : zero Tryz.prog 318 = some [] := by kernel_rfl
theorem sz319 : szOf Tryz.prog 319 = 0 := by kernel_rfl
theorem ag319 : isAgg Tryz.prog 319 = true := by kernel_rfl
theorem ze319 : zero Tryz.prog 319 = some [] := by kernel_rfl
theorem sz320 : szOf Tryz.prog 320 = 0 := by kernel_rfl
theorem ag320 : isAgg Tryz.prog 320 = true := by kernel_rfl
theorem ze320 : zero Tryz.prog 320 = some [] := by kernel_rfl
theorem sz321 : szOf Tryz.prog 321 = 1 := by kernel_rfl
theorem ag321 : isAgg Tryz.prog 321 = false := by kernel_rfl
theorem ze321 : zero Tryz.prog 321 = some [V.nilfn] := by kernel_rfl
theorem u322 : Tryz.prog.underlying 322 = some (.int .u32) := by kernel_rfl
theorem sz322 : szOf Tryz.prog 322 = 1 := by kernel_rfl
theorem ag322 : isAgg Tryz.prog 322 = false := by kernel_rfl
theorem ze322 : zero Tryz.prog 322 = some [V.int .u32 0] := by kernel_rfl
theorem u323 : Tryz.prog.underlying 323 = some (.int .u8) := by kernel_rfl
theorem sz323 : szOf Tryz.prog 323 = 1 := by kernel_rfl
theorem ag323 : isAgg Tryz.prog 323 = false := by kernel_rfl
theorem ze323 : zero Tryz.prog 323 = some [V.int .u8 0] := by kernel_rfl
theorem u324 : Tryz.prog.underlying 324 = some (.int .u8) := by kernel_rfl
theorem sz324 : szOf Tryz.prog 324 = 1 := by kernel_rfl
theorem ag324 : isAgg Tryz.prog 324 = false := by kernel_rfl
theorem ze324 : zero Tryz.prog 324 = some [V.int .u8 0] := by kernel_rfl
theorem sz325 : szOf Tryz.prog 325 = 1 := by kernel_rfl
theorem ag325 : isAgg Tryz.prog 325 = false := by kernel_rfl
theorem ze325 : zero Tryz.prog 325 = some [V.nilfn] := by kernel_rfl
theorem u326 : Tryz.prog.underlying 326 = some (.int .i32) := by kernel_rfl
theorem sz326 : szOf Tryz.prog 326 = 1 := by kernel_rfl
theorem ag326 : isAgg Tryz.prog 326 = false := by kernel_rfl
theorem ze326 : zero Tryz.prog 326 = some [V.int .i32 0] := by kernel_rfl
theorem u327 : Tryz.prog.underlying 327 = some (.int .i32) := by kernel_rfl
theorem sz327 : szOf Tryz.prog 327 = 1 := by kernel_rfl
theorem ag327 : isAgg Tryz.prog 327 = false := by kernel_rfl
theorem ze327 : zero Tryz.prog 327 = some [V.int .i32 0] := by kernel_rfl
theorem sz328 : szOf Tryz.prog 328 = 11 := by kernel_rfl
theorem ag328 : isAgg Tryz.prog 328 = true := by kernel_rfl
theorem ze328 : zero Tryz.prog 328 = some [V.int .u64 0, V.int .u64 0, V.int .u32 0, V.int .u8 0, V.int .u8 0, V.int .u8 0, V.int .u8 0, V.nilfn, V.nilp, V.int .i32 0, V.int .i32 0] := by kernel_rfl
theorem la328 : layOf Tryz.prog 328 = some [(12, 0, 1), (12, 1, 1), (322, 2, 1), (323, 3, 1), (5, 4, 1), (5, 5, 1), (324, 6, 1), (325, 7, 1), (312, 8, 1), (326, 9, 1), (327, 10, 1)] := by kernel_rfl
theorem bd328 (H : Hint) (d : Nat) (ty : TypeId) (ps : Array (Nat × Operand)) (s : St) : evV Tryz.prog H d ty (.build 328 ps) s = aggO (buildL Tryz.prog [(12, 0, 1), (12, 1, 1), (322, 2, 1), (323, 3, 1), (5, 4, 1), (5, 5, 1), (324, 6, 1), (325, 7, 1), (312, 8, 1), (326, 9, 1), (327, 10, 1)] s [V.int .u64 0, V.int .u64 0, V.int .u32 0, V.int .u8 0, V.int .u8 0, V.int .u8 0, V.int .u8 0, V.nilfn, V.nilp, V.int .i32 0, V.int .i32 0] ps.toList) := build_lay la328 ze328
theorem xb328 (H : Hint) (d : Nat) (ty : TypeId) (ps : Array (Nat × Operand)) (pos : String) (aft : Array Edge) (g : Option (Nat × Bool)) : isX Tryz.prog H { dst := some d, op := .build 328 ps, type := ty, pos := pos, after := aft, guard := g } = !memN d H.arrs := by kernel_rfl
theorem fa328_0 (v : V) : vFieldAddr Tryz.prog 328 0 v = faddr 0 v := by kernel_rfl
theorem fg328_0 (s : St) (v : V) : vField Tryz.prog s 328 0 v = fget 0 1 false v := by kernel_rfl
theorem fa328_1 (v : V) : vFieldAddr Tryz.prog 328 1 v = faddr 1 v := by kernel_rfl
theorem fg328_1 (s : St) (v : V) : vField Tryz.prog s 328 1 v = fget 1 1 false v := by kernel_rfl
theorem fa328_2 (v : V) : vFieldAddr Tryz.prog 328 2 v = faddr 2 v := by kernel_rfl
theorem fg328_2 (s : St) (v : V) : vField Tryz.prog s 328 2 v = fget 2 1 false v := by kernel_rfl
theorem fa328_3 (v : V) : vFieldAddr Tryz.prog 328 3 v = faddr 3 v := by kernel_rfl
theorem fg328_3 (s : St) (v : V) : vField Tryz.prog s 328 3 v = fget 3 1 false v := by kernel_rfl
theorem fa328_4 (v : V) : vFieldAddr Tryz.prog 328 4 v = faddr 4 v := by kernel_rfl
theorem fg328_4 (s : St) (v : V) : vField Tryz.prog s 328 4 v = fget 4 1 false v := by kernel_rfl
theorem fa328_5 (v : V) : vFieldAddr Tryz.prog 328 5 v = faddr 5 v := by kernel_rfl
theorem fg328_5 (s : St) (v : V) : vField Tryz.prog s 328 5 v = fget 5 1 false v := by kernel_rfl
theorem fa328_6 (v : V) : vFieldAddr Tryz.prog 328 6 v = faddr 6 v := by kernel_rfl
theorem fg328_6 (s : St) (v : V) : vField Tryz.prog s 328 6 v = fget 6 1 false v := by kernel_rfl
theorem fa328_7 (v : V) : vFieldAddr Tryz.prog 328 7 v = faddr 7 v := by kernel_rfl
theorem fg328_7 (s : St) (v : V) : vField Tryz.prog s 328 7 v = fget 7 1 false v := by kernel_rfl
theorem fa328_8 (v : V) : vFieldAddr Tryz.prog 328 8 v = faddr 8 v := by kernel_rfl
theorem fg328_8 (s : St) (v : V) : vField Tryz.prog s 328 8 v = fget 8 1 false v := by kernel_rfl
theorem fa328_9 (v : V) : vFieldAddr Tryz.prog 328 9 v = faddr 9 v := by kernel_rfl
theorem fg328_9 (s : St) (v : V) : vField Tryz.prog s 328 9 v = fget 9 1 false v := by kernel_rfl
theorem fa328_10 (v : V) : vFieldAddr Tryz.prog 328 10 v = faddr 10 v := by kernel_rfl
theorem fg328_10 (s : St) (v : V) : vField Tryz.prog s 328 10 v = fget 10 1 false v := by kernel_rfl
theorem sz329 : szOf Tryz.prog 329 = 11 := by kernel_rfl
theorem ag329 : isAgg Tryz.prog 329 = true := by kernel_rfl
theorem ze329 : zero Tryz.prog 329 = some [V.int .u64 0, V.int .u64 0, V.int .u32 0, V.int .u8 0, V.int .u8 0, V.int .u8 0, V.int .u8 0, V.nilfn, V.nilp, V.int .i32 0, V.int .i32 0] := by kernel_rfl
theorem la329 : layOf Tryz.prog 329 = some [(12, 0, 1), (12, 1, 1), (322, 2, 1), (323, 3, 1), (5, 4, 1), (5, 5, 1), (324, 6, 1), (325, 7, 1), (312, 8, 1), (326, 9, 1), (327, 10, 1)] := by kernel_rfl
theorem bd329 (H : Hint) (d : Nat) (ty : TypeId) (ps : Array (Nat × Operand)) (s : St) : evV Tryz.prog H d ty (.build 329 ps) s = aggO (buildL Tryz.prog [(12, 0, 1), (12, 1, 1), (322, 2, 1), (323, 3, 1), (5, 4, 1), (5, 5, 1), (324, 6, 1), (325, 7, 1), (312, 8, 1), (326, 9, 1), (327, 10, 1)] s [V.int .u64 0, V.int .u64 0, V.int .u32 0, V.int .u8 0, V.int .u8 0, V.int .u8 0, V.int .u8 0, V.nilfn, V.nilp, V.int .i32 0, V.int .i32 0] ps.toList) := build_lay la329 ze329
theorem xb329 (H : Hint) (d : Nat) (ty : TypeId) (ps : Array (Nat × Operand)) (pos : String) (aft : Array Edge) (g : Option (Nat × Bool)) : isX Tryz.prog H { dst := some d, op := .build 329 ps, type := ty, pos := pos, after := aft, guard := g } = !memN d H.arrs := by kernel_rfl
theorem fa329_0 (v : V) : vFieldAddr Tryz.prog 329 0 v = faddr 0 v := by kernel_rfl
theorem fg329_0 (s : St) (v : V) : vField Tryz.prog s 329 0 v = fget 0 1 false v := by kernel_rfl
theorem fa329_1 (v : V) : vFieldAddr Tryz.prog 329 1 v = faddr 1 v := by kernel_rfl
theorem fg329_1 (s : St) (v : V) : vField Tryz.prog s 329 1 v = fget 1 1 false v := by kernel_rfl
theorem fa329_2 (v : V) : vFieldAddr Tryz.prog 329 2 v = faddr 2 v := by kernel_rfl
theorem fg329_2 (s : St) (v : V) : vField Tryz.prog s 329 2 v = fget 2 1 false v := by kernel_rfl
theorem fa329_3 (v : V) : vFieldAddr Tryz.prog 329 3 v = faddr 3 v := by kernel_rfl
theorem fg329_3 (s : St) (v : V) : vField Tryz.prog s 329 3 v = fget 3 1 false v := by kernel_rfl
theorem fa329_4 (v : V) : vFieldAddr Tryz.prog 329 4 v = faddr 4 v := by kernel_rfl
theorem fg329_4 (s : St) (v : V) : vField Tryz.prog s 329 4 v = fget 4 1 false v := by kernel_rfl
theorem fa329_5 (v : V) : vFieldAddr Tryz.prog 329 5 v = faddr 5 v := by kernel_rfl
theorem fg329_5 (s : St) (v : V) : vField Tryz.prog s 329 5 v = fget 5 1 false v := by kernel_rfl
theorem fa329_6 (v : V) : vFieldAddr Tryz.prog 329 6 v = faddr 6 v := by kernel_rfl
theorem fg329_6 (s : St) (v : V) : vField Tryz.prog s 329 6 v = fget 6 1 false v := by kernel_rfl
theorem fa329_7 (v : V) : vFieldAddr Tryz.prog 329 7 v = faddr 7 v := by kernel_rfl
theorem fg329_7 (s : St) (v : V) : vField Tryz.prog s 329 7 v = fget 7 1 false v := by kernel_rfl
theorem fa329_8 (v : V) : vFieldAddr Tryz.prog 329 8 v = faddr 8 v := by kernel_rfl
theorem fg329_8 (s : St) (v : V) : vField Tryz.prog s 329 8 v = fget 8 1 false v := by kernel_rfl
theorem fa329_9 (v : V) : vFieldAddr Tryz.prog 329 9 v = faddr 9 v := by kernel_rfl
theorem fg329_9 (s : St) (v : V) : vField Tryz.prog s 329 9 v = fget 9 1 false v := by kernel_rfl
theorem fa329_10 (v : V) : vFieldAddr Tryz.prog 329 10 v = faddr 10 v := by kernel_rfl
theorem fg329_10 (s : St) (v : V) : vField Tryz.prog s 329 10 v = fget 10 1 false v := by kernel_rfl
theorem ev3 (x y : Int) : eqV Tryz.prog 3 (.int .i64 x) (.int .i64 y) = some (x == y) := by kernel_rfl
theorem ev178 (x0 y0 x1 y1 : Int) : eqV Tryz.prog 178 (.agg [V.int .i64 x0, V.int .i64 x1]) (.agg [V.int .i64 y0, V.int .i64 y1]) = some ((x0 == y0) && ((x1 == y1) && true)) := by kernel_rfl
theorem ev223 (x0 y0 x1 y1 x2 y2 x3 y3 x4 y4 x5 y5 : Int) : eqV Tryz.prog 223 (.agg [V.int .i64 x0, V.int .i64 x1, V.int .i64 x2, V.int .i64 x3, V.int .i64 x4, V.int .i64 x5]) (.agg [V.int .i64 y0, V.int .i64 y1, V.int .i64 y2, V.int .i64 y3, V.int .i64 y4, V.int .i64 y5]) = some ((x0 == y0) && ((x1 == y1) && ((x2 == y2) && ((x3 == y3) && ((x4 == y4) && ((x5 == y5) && true)))))) := by kernel_rfl
theorem ev247 (x0 y0 x1 y1 x2 y2 x3 y3 : Int) : eqV Tryz.prog 247 (.agg [V.int .i64 x0, V.int .i64 x1, V.int .i64 x2, V.int .i64 x3]) (.agg [V.int .i64 y0, V.int .i64 y1, V.int .i64 y2, V.int .i64 y3]) = some ((x0 == y0) && ((x1 == y1) && ((x2 == y2) && ((x3 == y3) && true)))) := by kernel_rfl
theorem by3 : (Tryz.prog.bytesOf 3) = 8 := by kernel_rfl
theorem by4 : (Tryz.prog.bytesOf 4) = 1 := by kernel_rfl
theorem by5 : (Tryz.prog.bytesOf 5) = 1 := by kernel_rfl
theorem by9 : (Tryz.prog.bytesOf 9) = 16 := by kernel_rfl
theorem by39 : (Tryz.prog.bytesOf 39) = 48 := by kernel_rfl
theorem by49 : (Tryz.prog.bytesOf 49) = 24 := by kernel_rfl
theorem by89 : (Tryz.prog.bytesOf 89) = 48 := by kernel_rfl
theorem by91 : (Tryz.prog.bytesOf 91) = 120 := by kernel_rfl
theorem by119 : (Tryz.prog.bytesOf 119) = 56 := by kernel_rfl
theorem by121 : (Tryz.prog.bytesOf 121) = 24 := by kernel_rfl
theorem by123 : (Tryz.prog.bytesOf 123) = 88 := by kernel_rfl
theorem by133 : (Tryz.prog.bytesOf 133) = 32 := by kernel_rfl
theorem by139 : (Tryz.prog.bytesOf 139) = 80 := by kernel_rfl
theorem by149 : (Tryz.prog.bytesOf 149) = 120 := by kernel_rfl
theorem by159 : (Tryz.prog.bytesOf 159) = 48 := by kernel_rfl
theorem by161 : (Tryz.prog.bytesOf 161) = 120 := by kernel_rfl
theorem by178 : (Tryz.prog.bytesOf 178) = 16 := by kernel_rfl
theorem by212 : (Tryz.prog.bytesOf 212) = 120 := by kernel_rfl
theorem by223 : (Tryz.prog.bytesOf 223) = 48 := by kernel_rfl
theorem by226 : (Tryz.prog.bytesOf 226) = 56 := by kernel_rfl
theorem by256 : (Tryz.prog.bytesOf 256) = 2 := by kernel_rfl
theorem by277 : (Tryz.prog.bytesOf 277) = 16 := by kernel_rfl
theorem by296 : (Tryz.prog.bytesOf 296) = 40 := by kernel_rfl
attribute [go_sem] sz1 ag1 ze1 u2 sz2 ag2 ze2 u3 sz3 ag3 ze3 u4 sz4 ag4 ze4 ev4 u5 sz5 ag5 ze5 u6 sz6 ag6 ze6 sz7 ag7 ze7 fa7_0 fg7_0 fa7_1 fg7_1 fa7_2 fg7_2 fa7_3 fg7_3 sz8 ag8 ze8 fa8_0 fg8_0 fa8_1 fg8_1 fa8_2 fg8_2 fa8_3 fg8_3 u9 sz9 ag9 ze9 u10 sz10 ag10 ze10 u11 sz11 ag11 ze11 u12 sz12 ag12 ze12 sz13 ag13 ze13 fa13_0 fg13_0 fa13_1 fg13_1 sz14 ag14 ze14 fa14_0 fg14_0 fa14_1 fg14_1 u15 sz15 ag15 ze15 u16 sz16 ag16 ze16 u17 sz17 ag17 ze17 sz18 ag18 ze18 fa18_0 fg18_0 sz19 ag19 ze19 fa19_0 fg19_0 u21 sz21 ag21 ze21 u22 sz22 ag22 eo22 es22 gr22 df22 ze22 sz23 ag23 ze23 fa23_0 fg23_0 sz24 ag24 ze24 fa24_0 fg24_0 sz25 ag25 ze25 sz27 ag27 ze27 u28 sz28 ag28 eo28 es28 gr28 df28 ze28 sz29 ag29 ze29 fa29_0 fg29_0 sz30 ag30 ze30 fa30_0 fg30_0 sz31 ag31 ze31 sz32 ag32 ze32 sz33 ag33 ze33 sz34 ag34 ze34 sz35 ag35 ze35 u36 sz36 ag36 eo36 es36 gr36 df36 ze36 u37 sz37 ag37 eo37 es37 gr37 df37 ze37 sz38 ag38 ze38 fa38_0 fg38_0 fa38_1 fg38_1 sz39 ag39 ze39 fa39_0 fg39_0 fa39_1 fg39_1 sz41 ag41 ze41 sz42 ag42 ze42 sz43 ag43 ze43 sz44 ag44 ze44 sz46 ag46 ze46 sz47 ag47 ze47 fa47_0 fg47_0 fa47_1 fg47_1 sz48 ag48 ze48 fa48_0 fg48_0 fa48_1 fg48_1 ev48 eg48 u49 sz49 ag49 eo49 es49 gr49 df49 ze49 sz50 ag50 ze50 fa50_0 fg50_0 fa50_1 fg50_1 fa50_2 fg50_2 sz51 ag51 ze51 fa51_0 fg51_0 fa51_1 fg51_1 fa51_2 fg51_2 sz52 ag52 ze52 fa52_0 fg52_0 fa52_1 fg52_1 fa52_2 fg52_2 sz53 ag53 ze53 fa53_0 fg53_0 fa53_1 fg53_1 fa53_2 fg53_2 sz54 ag54 ze54 u55 sz55 ag55 eo55 es55 gr55 df55 ze55 sz56 ag56 ze56 fa56_0 fg56_0 fa56_1 fg56_1 fa56_2 fg56_2 sz57 ag57 ze57 fa57_0 fg57_0 fa57_1 fg57_1 fa57_2 fg57_2 ev57 eg57 sz58 ag58 ze58 fa58_0 fg58_0 fa58_1 fg58_1 fa58_2 fg58_2 sz59 ag59 ze59 fa59_0 fg59_0 fa59_1 fg59_1 fa59_2 fg59_2 sz60 ag60 ze60 sz61 ag61 ze61 fa61_0 fg61_0 fa61_1 fg61_1 ev61 eg61 sz62 ag62 ze62 fa62_0 fg62_0 fa62_1 fg62_1 fa62_2 fg62_2 sz63 ag63 ze63 fa63_0 fg63_0 fa63_1 fg63_1 fa63_2 fg63_2 sz64 ag64 ze64 fa64_0 fg64_0 fa64_1 fg64_1 fa64_2 fg64_2 sz65 ag65 ze65 sz66 ag66 ze66 sz67 ag67 ze67 sz68 ag68 ze68 sz69 ag69 ze69 sz70 ag70 ze70 u71 sz71 ag71 eo71 es71 gr71 df71 ze71 sz72 ag72 ze72 fa72_0 fg72_0 sz73 ag73 ze73 fa73_0 fg73_0 sz74 ag74 ze74 sz75 ag75 ze75 u76 sz76 ag76 eo76 es76 gr76 df76 ze76 sz77 ag77 ze77 fa77_0 fg77_0 sz78 ag78 ze78 fa78_0 fg78_0 sz79 ag79 ze79 sz80 ag80 ze80 sz81 ag81 ze81 sz82 ag82 ze82 sz83 ag83 ze83 sz84 ag84 ze84 sz85 ag85 ze85 fa85_0 fg85_0 fa85_1 fg85_1 fa85_2 fg85_2 sz86 ag86 ze86 fa86_0 fg86_0 fa86_1 fg86_1 fa86_2 fg86_2 ev86 eg86 u87 sz87 ag87 eo87 es87 gr87 df87 ze87 sz88 ag88 ze88 fa88_0 fg88_0 fa88_1 fg88_1 fa88_2 fg88_2 sz89 ag89 ze89 fa89_0 fg89_0 fa89_1 fg89_1 fa89_2 fg89_2 sz90 ag90 ze90 fa90_0 fg90_0 fa90_1 fg90_1 fa90_2 fg90_2 fa90_3 fg90_3 sz91 ag91 ze91 fa91_0 fg91_0 fa91_1 fg91_1 fa91_2 fg91_2 fa91_3 fg91_3 sz92 ag92 ze92 sz93 ag93 ze93 sz94 ag94 ze94 sz95 ag95 ze95 sz96 ag96 ze96 sz97 ag97 ze97 sz98 ag98 ze98 sz99 ag99 ze99 sz100 ag100 ze100 sz101 ag101 ze101 sz102 ag102 ze102 sz103 ag103 ze103 sz104 ag104 ze104 sz105 ag105 ze105 sz106 ag106 ze106 sz107 ag107 ze107 sz108 ag108 ze108 sz109 ag109 ze109 sz111 ag111 ze111 sz112 ag112 ze112 sz113 ag113 ze113 sz114 ag114 ze114 sz115 ag115 ze115 sz116 ag116 ze116 u117 sz117 ag117 eo117 es117 gr117 df117 ze117 sz118 ag118 ze118 fa118_0 fg118_0 fa118_1 fg118_1 fa118_2 fg118_2 sz119 ag119 ze119 fa119_0 fg119_0 fa119_1 fg119_1 fa119_2 fg119_2 sz120 ag120 ze120 fa120_0 fg120_0 fa120_1 fg120_1 sz121 ag121 ze121 fa121_0 fg121_0 fa121_1 fg121_1 ev121 eg121 sz122 ag122 ze122 fa122_0 fg122_0 fa122_1 fg122_1 fa122_2 fg122_2 sz123 ag123 ze123 fa123_0 fg123_0 fa123_1 fg123_1 fa123_2 fg123_2 sz125 ag125 ze125 sz127 ag127 ze127 sz128 ag128 ze128 sz129 ag129 ze129 sz130 ag130 ze130 u131 sz131 ag131 eo131 es131 gr131 df131 ze131 sz132 ag132 ze132 fa132_0 fg132_0 fa132_1 fg132_1 sz133 ag133 ze133 fa133_0 fg133_0 fa133_1 fg133_1 sz134 ag134 ze134 sz135 ag135 ze135 u136 sz136 ag136 eo136 es136 gr136 df136 ze136 sz137 ag137 ze137 sz138 ag138 ze138 fa138_0 fg138_0 fa138_1 fg138_1 sz139 ag139 ze139 fa139_0 fg139_0 fa139_1 fg139_1 sz140 ag140 ze140 sz141 ag141 ze141 sz142 ag142 ze142 sz143 ag143 ze143 sz144 ag144 ze144 sz145 ag145 ze145 sz146 ag146 ze146 sz147 ag147 ze147 sz148 ag148 ze148 fa148_0 fg148_0 fa148_1 fg148_1 fa148_2 fg148_2 fa148_3 fg148_3 fa148_4 fg148_4 fa148_5 fg148_5 sz149 ag149 ze149 fa149_0 fg149_0 fa149_1 fg149_1 fa149_2 fg149_2 fa149_3 fg149_3 fa149_4 fg149_4 fa149_5 fg149_5 sz150 ag150 ze150 sz151 ag151 ze151 sz153 ag153 ze153 sz154 ag154 ze154 sz155 ag155 ze155 sz156 ag156 ze156 fa156_0 fg156_0 fa156_1 fg156_1 fa156_2 fg156_2 ev156 eg156 u157 sz157 ag157 eo157 es157 gr157 df157 ze157 sz158 ag158 ze158 fa158_0 fg158_0 fa158_1 fg158_1 fa158_2 fg158_2 sz159 ag159 ze159 fa159_0 fg159_0 fa159_1 fg159_1 fa159_2 fg159_2 sz160 ag160 ze160 fa160_0 fg160_0 fa160_1 fg160_1 fa160_2 fg160_2 fa160_3 fg160_3 sz161 ag161 ze161 fa161_0 fg161_0 fa161_1 fg161_1 fa161_2 fg161_2 fa161_3 fg161_3 sz162 ag162 ze162 sz163 ag163 ze163 sz164 ag164 ze164 sz165 ag165 ze165 sz166 ag166 ze166 sz167 ag167 ze167 sz168 ag168 ze168 sz169 ag169 ze169 sz170 ag170 ze170 sz171 ag171 ze171 sz172 ag172 ze172 sz173 ag173 ze173 sz174 ag174 ze174 u175 sz175 ag175 eo175 es175 gr175 df175 ze175 sz177 ag177 ze177 u178 sz178 ag178 eo178 es178 ze178 sz179 ag179 ze179 sz180 ag180 ze180 sz181 ag181 ze181 sz182 ag182 ze182 sz183 ag183 ze183 sz184 ag184 ze184 sz185 ag185 ze185 sz186 ag186 ze186 sz187 ag187 ze187 sz188 ag188 ze188 sz189 ag189 ze189 sz190 ag190 ze190 sz191 ag191 ze191 sz192 ag192 ze192 sz193 ag193 ze193 sz194 ag194 ze194 sz195 ag195 ze195 sz196 ag196 ze196 sz197 ag197 ze197 sz198 ag198 ze198 sz199 ag199 ze199 sz200 ag200 ze200 sz201 ag201 ze201 sz202 ag202 ze202 sz203 ag203 ze203 u204 sz204 ag204 eo204 es204 gr204 df204 ze204 sz205 ag205 ze205 sz206 ag206 ze206 sz207 ag207 ze207 sz208 ag208 ze208 sz209 ag209 ze209 sz210 ag210 ze210 sz211 ag211 ze211 fa211_0 fg211_0 fa211_1 fg211_1 fa211_2 fg211_2 fa211_3 fg211_3 fa211_4 fg211_4 fa211_5 fg211_5 sz212 ag212 ze212 fa212_0 fg212_0 fa212_1 fg212_1 fa212_2 fg212_2 fa212_3 fg212_3 fa212_4 fg212_4 fa212_5 fg212_5 sz213 ag213 ze213 sz215 ag215 ze215 u216 sz216 ag216 eo216 es216 gr216 df216 ze216 sz218 ag218 ze218 sz219 ag219 ze219 u220 sz220 ag220 eo220 es220 gr220 df220 ze220 sz222 ag222 ze222 u223 sz223 ag223 eo223 es223 ze223 sz224 ag224 ze224 sz225 ag225 ze225 fa225_0 fg225_0 fa225_1 fg225_1 sz226 ag226 ze226 fa226_0 fg226_0 fa226_1 fg226_1 sz227 ag227 ze227 sz229 ag229 ze229 sz230 ag230 ze230 sz231 ag231 ze231 sz232 ag232 ze232 sz233 ag233 ze233 sz234 ag234 ze234 sz235 ag235 ze235 u236 sz236 ag236 eo236 es236 gr236 df236 ze236 sz237 ag237 ze237 u238 sz238 ag238 eo238 es238 gr238 df238 ze238 sz239 ag239 ze239 sz240 ag240 ze240 sz241 ag241 ze241 sz242 ag242 ze242 sz244 ag244 ze244 u245 sz245 ag245 u246 sz246 ag246 u247 sz247 ag247 eo247 es247 ze247 u248 sz248 ag248 eo248 es248 gr248 df248 ze248 u249 sz249 ag249 sz250 ag250 ze250 sz251 ag251 ze251 sz252 ag252 ze252 sz253 ag253 ze253 sz254 ag254 ze254 sz255 ag255 ze255 u256 sz256 ag256 eo256 es256 ze256 u257 sz257 ag257 eo257 es257 gr257 df257 ze257 sz258 ag258 ze258 sz259 ag259 ze259 sz261 ag261 ze261 sz263 ag263 ze263 sz264 ag264 ze264 sz265 ag265 ze265 sz266 ag266 ze266 sz267 ag267 ze267 u268 sz268 ag268 sz269 ag269 ze269 sz270 ag270 ze270 sz271 ag271 ze271 sz272 ag272 ze272 sz273 ag273 ze273 sz274 ag274 ze274 u275 sz275 ag275 ze275 sz276 ag276 ze276 fa276_0 fg276_0 fa276_1 fg276_1 ev276 eg276 sz277 ag277 ze277 fa277_0 fg277_0 fa277_1 fg277_1 ev277 eg277 sz278 ag278 ze278 u279 sz279 ag279 eo279 es279 gr279 df279 ze279 sz281 ag281 ze281 sz282 ag282 ze282 sz283 ag283 ze283 sz284 ag284 ze284 sz285 ag285 ze285 sz286 ag286 ze286 sz287 ag287 ze287 sz288 ag288 ze288 sz289 ag289 ze289 sz290 ag290 ze290 sz291 ag291 ze291 sz292 ag292 ze292 sz293 ag293 ze293 sz294 ag294 ze294 sz295 ag295 ze295 fa295_0 fg295_0 fa295_1 fg295_1 fa295_2 fg295_2 sz296 ag296 ze296 fa296_0 fg296_0 fa296_1 fg296_1 fa296_2 fg296_2 u297 sz297 ag297 eo297 es297 gr297 df297 ze297 sz298 ag298 ze298 sz299 ag299 ze299 sz300 ag300 ze300 sz301 ag301 ze301 u302 sz302 ag302 sz303 ag303 ze303 u304 sz304 ag304 ze304 sz305 ag305 ze305 fa305_0 fg305_0 fa305_1 fg305_1 sz306 ag306 ze306 fa306_0 fg306_0 fa306_1 fg306_1 sz310 ag310 ze310 sz311 ag311 ze311 u312 sz312 ag312 ze312 sz314 ag314 ze314 sz315 ag315 ze315 sz316 ag316 ze316 fa316_0 fg316_0 fa316_1 fg316_1 fa316_2 fg316_2 fa316_3 fg316_3 sz317 ag317 ze317 fa317_0 fg317_0 fa317_1 fg317_1 fa317_2 fg317_2 fa317_3 fg317_3 u318 sz318 ag318 eo318 es318 ze318 sz319 ag319 ze319 sz320 ag320 ze320 sz321 ag321 ze321 u322 sz322 ag322 ze322 u323 sz323 ag323 ze323 u324 sz324 ag324 ze324 sz325 ag325 ze325 u326 sz326 ag326 ze326 u327 sz327 ag327 ze327 sz328 ag328 ze328 fa328_0 fg328_0 fa328_1 fg328_1 fa328_2 fg328_2 fa328_3 fg328_3 fa328_4 fg328_4 fa328_5 fg328_5 fa328_6 fg328_6 fa328_7 fg328_7 fa328_8 fg328_8 fa328_9 fg328_9 fa328_10 fg328_10 sz329 ag329 ze329 fa329_0 fg329_0 fa329_1 fg329_1 fa329_2 fg329_2 fa329_3 fg329_3 fa329_4 fg329_4 fa329_5 fg329_5 fa329_6 fg329_6 fa329_7 fg329_7 fa329_8 fg329_8 fa329_9 fg329_9 fa329_10 fg329_10 ev3 ev178 ev223 ev247 by3 by4 by5 by9 by39 by49 by89 by91 by119 by121 by123 by133 by139 by149 by159 by161 by178 by212 by223 by226 by256 by277 by296
attribute [go_sem high] bd7 xb7 bd8 xb8 bd13 xb13 bd14 xb14 bd18 xb18 bd19 xb19 bd23 xb23 bd24 xb24 bd29 xb29 bd30 xb30 bd38 xb38 bd39 xb39 bd47 xb47 bd48 xb48 bd50 xb50 bd51 xb51 bd52 xb52 bd53 xb53 bd56 xb56 bd57 xb57 bd58 xb58 bd59 xb59 bd61 xb61 bd62 xb62 bd63 xb63 bd64 xb64 bd72 xb72 bd73 xb73 bd77 xb77 bd78 xb78 bd85 xb85 bd86 xb86 bd88 xb88 bd89 xb89 bd90 xb90 bd91 xb91 bd118 xb118 bd119 xb119 bd120 xb120 bd121 xb121 bd122 xb122 bd123 xb123 bd132 xb132 bd133 xb133 bd138 xb138 bd139 xb139 bd148 xb148 bd149 xb149 bd156 xb156 bd158 xb158 bd159 xb159 bd160 xb160 bd161 xb161 xa178 bd211 xb211 bd212 xb212 xa223 bd225 xb225 bd226 xb226 xa247 xa256 bd276 xb276 bd277 xb277 bd295 xb295 bd296 xb296 bd305 xb305 bd306 xb306 bd316 xb316 bd317 xb317 xa318 bd328 xb328 bd329 xb329
end Go.Ev
