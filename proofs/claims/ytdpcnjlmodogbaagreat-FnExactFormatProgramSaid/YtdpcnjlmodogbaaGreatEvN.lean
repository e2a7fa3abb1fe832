/- Facts on the seat's types, printed by a program. -/
import Derived.Test.YtdpcnjlmodogbaaGreatProg
import Derived.Test.YtdpcnjlmodogbaaGreatEvJ
set_option linter.unusedVariables false
set_option linter.unusedSimpArgs false
namespace Go.Ev
open Go Go.Proofs
set_option maxRecDepth 10000
theorem sz1 : szOf Tryz.prog 1 = 1 := by kernel_rfl
theorem ag1 : isAgg Tryz.prog 1 = false := by kernel_rfl
theorem ze1 : zero Tryz.prog 1 = some [V.nilfn] := by kernel_rfl
theorem u2 : Tryz.prog.underlying 2 = some (.int .i64) := by kernel_rfl
theorem sz2 : szOf Tryz.prog 2 = 1 := by kernel_rfl
theorem ag2 : isAgg Tryz.prog 2 = false := by kernel_rfl
theorem ze2 : zero Tryz.prog 2 = some [V.int .i64 0] := by kernel_rfl
theorem u3 : Tryz.prog.underlying 3 = some (.int .i64) := by kernel_rfl
theorem sz3 : szOf Tryz.prog 3 = 1 := by kernel_rfl
theorem ag3 : isAgg Tryz.prog 3 = false := by kernel_rfl
theorem ze3 : zero Tryz.prog 3 = some [V.int .i64 0] := by kernel_rfl
theorem u4 : Tryz.prog.underlying 4 = some .bool := by kernel_rfl
theorem sz4 : szOf Tryz.prog 4 = 1 := by kernel_rfl
theorem ag4 : isAgg Tryz.prog 4 = false := by kernel_rfl
theorem ze4 : zero Tryz.prog 4 = some [V.bool false] := by kernel_rfl
theorem ev4 (x y : Bool) : eqV Tryz.prog 4 (.bool x) (.bool y) = some (x == y) := by kernel_rfl
theorem u5 : Tryz.prog.underlying 5 = some (.int .u8) := by kernel_rfl
theorem sz5 : szOf Tryz.prog 5 = 1 := by kernel_rfl
theorem ag5 : isAgg Tryz.prog 5 = false := by kernel_rfl
theorem ze5 : zero Tryz.prog 5 = some [V.int .u8 0] := by kernel_rfl
theorem u6 : Tryz.prog.underlying 6 = some (.int .u8) := by kernel_rfl
theorem sz6 : szOf Tryz.prog 6 = 1 := by kernel_rfl
theorem ag6 : isAgg Tryz.prog 6 = false := by kernel_rfl
theorem ze6 : zero Tryz.prog 6 = some [V.int .u8 0] := by kernel_rfl
theorem sz7 : szOf Tryz.prog 7 = 4 := by kernel_rfl
theorem ag7 : isAgg Tryz.prog 7 = true := by kernel_rfl
theorem ze7 : zero Tryz.prog 7 = some [V.int .i64 0, V.int .i64 0, V.bool false, V.int .u8 0] := by kernel_rfl
theorem la7 : layOf Tryz.prog 7 = some [(2, 0, 1), (3, 1, 1), (4, 2, 1), (6, 3, 1)] := by kernel_rfl
theorem bd7 (H : Hint) (d : Nat) (ty : TypeId) (ps : Array (Nat × Operand)) (s : St) : evV Tryz.prog H d ty (.build 7 ps) s = aggO (buildL Tryz.prog [(2, 0, 1), (3, 1, 1), (4, 2, 1), (6, 3, 1)] s [V.int .i64 0, V.int .i64 0, V.bool false, V.int .u8 0] ps.toList) := build_lay la7 ze7
theorem xb7 (H : Hint) (d : Nat) (ty : TypeId) (ps : Array (Nat × Operand)) (pos : String) (aft : Array Edge) (g : Option (Nat × Bool)) : isX Tryz.prog H { dst := some d, op := .build 7 ps, type := ty, pos := pos, after := aft, guard := g } = !memN d H.arrs := by kernel_rfl
theorem fa7_0 (v : V) : vFieldAddr Tryz.prog 7 0 v = faddr 0 v := by kernel_rfl
theorem fg7_0 (s : St) (v : V) : vField Tryz.prog s 7 0 v = fget 0 1 false v := by kernel_rfl
theorem fa7_1 (v : V) : vFieldAddr Tryz.prog 7 1 v = faddr 1 v := by kernel_rfl
theorem fg7_1 (s : St) (v : V) : vField Tryz.prog s 7 1 v = fget 1 1 false v := by kernel_rfl
theorem fa7_2 (v : V) : vFieldAddr Tryz.prog 7 2 v = faddr 2 v := by kernel_rfl
theorem fg7_2 (s : St) (v : V) : vField Tryz.prog s 7 2 v = fget 2 1 false v := by kernel_rfl
theorem fa7_3 (v : V) : vFieldAddr Tryz.prog 7 3 v = faddr 3 v := by kernel_rfl
theorem fg7_3 (s : St) (v : V) : vField Tryz.prog s 7 3 v = fget 3 1 false v := by kernel_rfl
theorem sz8 : szOf Tryz.prog 8 = 4 := by kernel_rfl
theorem ag8 : isAgg Tryz.prog 8 = true := by kernel_rfl
theorem ze8 : zero Tryz.prog 8 = some [V.int .i64 0, V.int .i64 0, V.bool false, V.int .u8 0] := by kernel_rfl
theorem la8 : layOf Tryz.prog 8 = some [(2, 0, 1), (3, 1, 1), (4, 2, 1), (6, 3, 1)] := by kernel_rfl
theorem bd8 (H : Hint) (d : Nat) (ty : TypeId) (ps : Array (Nat × Operand)) (s : St) : evV Tryz.prog H d ty (.build 8 ps) s = aggO (buildL Tryz.prog [(2, 0, 1), (3, 1, 1), (4, 2, 1), (6, 3, 1)] s [V.int .i64 0, V.int .i64 0, V.bool false, V.int .u8 0] ps.toList) := build_lay la8 ze8
theorem xb8 (H : Hint) (d : Nat) (ty : TypeId) (ps : Array (Nat × Operand)) (pos : String) (aft : Array Edge) (g : Option (Nat × Bool)) : isX Tryz.prog H { dst := some d, op := .build 8 ps, type := ty, pos := pos, after := aft, guard := g } = !memN d H.arrs := by kernel_rfl
theorem fa8_0 (v : V) : vFieldAddr Tryz.prog 8 0 v = faddr 0 v := by kernel_rfl
theorem fg8_0 (s : St) (v : V) : vField Tryz.prog s 8 0 v = fget 0 1 false v := by kernel_rfl
theorem fa8_1 (v : V) : vFieldAddr Tryz.prog 8 1 v = faddr 1 v := by kernel_rfl
theorem fg8_1 (s : St) (v : V) : vField Tryz.prog s 8 1 v = fget 1 1 false v := by kernel_rfl
theorem fa8_2 (v : V) : vFieldAddr Tryz.prog 8 2 v = faddr 2 v := by kernel_rfl
theorem fg8_2 (s : St) (v : V) : vField Tryz.prog s 8 2 v = fget 2 1 false v := by kernel_rfl
theorem fa8_3 (v : V) : vFieldAddr Tryz.prog 8 3 v = faddr 3 v := by kernel_rfl
theorem fg8_3 (s : St) (v : V) : vField Tryz.prog s 8 3 v = fget 3 1 false v := by kernel_rfl
theorem u9 : Tryz.prog.underlying 9 = some .string := by kernel_rfl
theorem sz9 : szOf Tryz.prog 9 = 1 := by kernel_rfl
theorem ag9 : isAgg Tryz.prog 9 = false := by kernel_rfl
theorem ze9 : zero Tryz.prog 9 = some [V.str ⟨#[]⟩] := by kernel_rfl
theorem u10 : Tryz.prog.underlying 10 = some .string := by kernel_rfl
theorem sz10 : szOf Tryz.prog 10 = 1 := by kernel_rfl
theorem ag10 : isAgg Tryz.prog 10 = false := by kernel_rfl
theorem ze10 : zero Tryz.prog 10 = some [V.str ⟨#[]⟩] := by kernel_rfl
theorem u11 : Tryz.prog.underlying 11 = some .string := by kernel_rfl
theorem sz11 : szOf Tryz.prog 11 = 1 := by kernel_rfl
theorem ag11 : isAgg Tryz.prog 11 = false := by kernel_rfl
theorem ze11 : zero Tryz.prog 11 = some [V.str ⟨#[]⟩] := by kernel_rfl
theorem u12 : Tryz.prog.underlying 12 = some (.int .u64) := by kernel_rfl
theorem sz12 : szOf Tryz.prog 12 = 1 := by kernel_rfl
theorem ag12 : isAgg Tryz.prog 12 = false := by kernel_rfl
theorem ze12 : zero Tryz.prog 12 = some [V.int .u64 0] := by kernel_rfl
theorem sz13 : szOf Tryz.prog 13 = 2 := by kernel_rfl
theorem ag13 : isAgg Tryz.prog 13 = true := by kernel_rfl
theorem ze13 : zero Tryz.prog 13 = some [V.str ⟨#[]⟩, V.int .u64 0] := by kernel_rfl
theorem la13 : layOf Tryz.prog 13 = some [(9, 0, 1), (12, 1, 1)] := by kernel_rfl
theorem bd13 (H : Hint) (d : Nat) (ty : TypeId) (ps : Array (Nat × Operand)) (s : St) : evV Tryz.prog H d ty (.build 13 ps) s = aggO (buildL Tryz.prog [(9, 0, 1), (12, 1, 1)] s [V.str ⟨#[]⟩, V.int .u64 0] ps.toList) := build_lay la13 ze13
theorem xb13 (H : Hint) (d : Nat) (ty : TypeId) (ps : Array (Nat × Operand)) (pos : String) (aft : Array Edge) (g : Option (Nat × Bool)) : isX Tryz.prog H { dst := some d, op := .build 13 ps, type := ty, pos := pos, after := aft, guard := g } = !memN d H.arrs := by kernel_rfl
theorem fa13_0 (v : V) : vFieldAddr Tryz.prog 13 0 v = faddr 0 v := by kernel_rfl
theorem fg13_0 (s : St) (v : V) : vField Tryz.prog s 13 0 v = fget 0 1 false v := by kernel_rfl
theorem fa13_1 (v : V) : vFieldAddr Tryz.prog 13 1 v = faddr 1 v := by kernel_rfl
theorem fg13_1 (s : St) (v : V) : vField Tryz.prog s 13 1 v = fget 1 1 false v := by kernel_rfl
theorem sz14 : szOf Tryz.prog 14 = 2 := by kernel_rfl
theorem ag14 : isAgg Tryz.prog 14 = true := by kernel_rfl
theorem ze14 : zero Tryz.prog 14 = some [V.str ⟨#[]⟩, V.int .u64 0] := by kernel_rfl
theorem la14 : layOf Tryz.prog 14 = some [(9, 0, 1), (12, 1, 1)] := by kernel_rfl
theorem bd14 (H : Hint) (d : Nat) (ty : TypeId) (ps : Array (Nat × Operand)) (s : St) : evV Tryz.prog H d ty (.build 14 ps) s = aggO (buildL Tryz.prog [(9, 0, 1), (12, 1, 1)] s [V.str ⟨#[]⟩, V.int .u64 0] ps.toList) := build_lay la14 ze14
theorem xb14 (H : Hint) (d : Nat) (ty : TypeId) (ps : Array (Nat × Operand)) (pos : String) (aft : Array Edge) (g : Option (Nat × Bool)) : isX Tryz.prog H { dst := some d, op := .build 14 ps, type := ty, pos := pos, after := aft, guard := g } = !memN d H.arrs := by kernel_rfl
theorem fa14_0 (v : V) : vFieldAddr Tryz.prog 14 0 v = faddr 0 v := by kernel_rfl
theorem fg14_0 (s : St) (v : V) : vField Tryz.prog s 14 0 v = fget 0 1 false v := by kernel_rfl
theorem fa14_1 (v : V) : vFieldAddr Tryz.prog 14 1 v = faddr 1 v := by kernel_rfl
theorem fg14_1 (s : St) (v : V) : vField Tryz.prog s 14 1 v = fget 1 1 false v := by kernel_rfl
theorem u15 : Tryz.prog.underlying 15 = some (.pointer 139) := by kernel_rfl
theorem sz15 : szOf Tryz.prog 15 = 1 := by kernel_rfl
theorem ag15 : isAgg Tryz.prog 15 = false := by kernel_rfl
theorem ze15 : zero Tryz.prog 15 = some [V.nilp] := by kernel_rfl
theorem u16 : Tryz.prog.underlying 16 = some (.pointer 142) := by kernel_rfl
theorem sz16 : szOf Tryz.prog 16 = 1 := by kernel_rfl
theorem ag16 : isAgg Tryz.prog 16 = false := by kernel_rfl
theorem ze16 : zero Tryz.prog 16 = some [V.nilp] := by kernel_rfl
theorem u17 : Tryz.prog.underlying 17 = some (.pointer 152) := by kernel_rfl
theorem sz17 : szOf Tryz.prog 17 = 1 := by kernel_rfl
theorem ag17 : isAgg Tryz.prog 17 = false := by kernel_rfl
theorem ze17 : zero Tryz.prog 17 = some [V.nilp] := by kernel_rfl
theorem sz18 : szOf Tryz.prog 18 = 1 := by kernel_rfl
theorem ag18 : isAgg Tryz.prog 18 = true := by kernel_rfl
theorem ze18 : zero Tryz.prog 18 = some [V.nilp] := by kernel_rfl
theorem la18 : layOf Tryz.prog 18 = some [(17, 0, 1)] := by kernel_rfl
theorem bd18 (H : Hint) (d : Nat) (ty : TypeId) (ps : Array (Nat × Operand)) (s : St) : evV Tryz.prog H d ty (.build 18 ps) s = aggO (buildL Tryz.prog [(17, 0, 1)] s [V.nilp] ps.toList) := build_lay la18 ze18
theorem xb18 (H : Hint) (d : Nat) (ty : TypeId) (ps : Array (Nat × Operand)) (pos : String) (aft : Array Edge) (g : Option (Nat × Bool)) : isX Tryz.prog H { dst := some d, op := .build 18 ps, type := ty, pos := pos, after := aft, guard := g } = !memN d H.arrs := by kernel_rfl
theorem fa18_0 (v : V) : vFieldAddr Tryz.prog 18 0 v = faddr 0 v := by kernel_rfl
theorem fg18_0 (s : St) (v : V) : vField Tryz.prog s 18 0 v = fget 0 1 false v := by kernel_rfl
theorem sz19 : szOf Tryz.prog 19 = 1 := by kernel_rfl
theorem ag19 : isAgg Tryz.prog 19 = true := by kernel_rfl
theorem ze19 : zero Tryz.prog 19 = some [V.nilp] := by kernel_rfl
theorem la19 : layOf Tryz.prog 19 = some [(17, 0, 1)] := by kernel_rfl
theorem bd19 (H : Hint) (d : Nat) (ty : TypeId) (ps : Array (Nat × Operand)) (s : St) : evV Tryz.prog H d ty (.build 19 ps) s = aggO (buildL Tryz.prog [(17, 0, 1)] s [V.nilp] ps.toList) := build_lay la19 ze19
theorem xb19 (H : Hint) (d : Nat) (ty : TypeId) (ps : Array (Nat × Operand)) (pos : String) (aft : Array Edge) (g : Option (Nat × Bool)) : isX Tryz.prog H { dst := some d, op := .build 19 ps, type := ty, pos := pos, after := aft, guard := g } = !memN d H.arrs := by kernel_rfl
theorem fa19_0 (v : V) : vFieldAddr Tryz.prog 19 0 v = faddr 0 v := by kernel_rfl
theorem fg19_0 (s : St) (v : V) : vField Tryz.prog s 19 0 v = fget 0 1 false v := by kernel_rfl
theorem u21 : Tryz.prog.underlying 21 = some (.int .i32) := by kernel_rfl
theorem sz21 : szOf Tryz.prog 21 = 1 := by kernel_rfl
theorem ag21 : isAgg Tryz.prog 21 = false := by kernel_rfl
theorem ze21 : zero Tryz.prog 21 = some [V.int .i32 0] := by kernel_rfl
theorem u22 : Tryz.prog.underlying 22 = some (.slice 51) := by kernel_rfl
theorem sz22 : szOf Tryz.prog 22 = 1 := by kernel_rfl
theorem ag22 : isAgg Tryz.prog 22 = false := by kernel_rfl
theorem eo22 : elemOf Tryz.prog 22 = 51 := by kernel_rfl
theorem es22 : elemSz Tryz.prog 22 = 8 := by kernel_rfl
theorem gr22 : growB Tryz.prog 22 = true := by kernel_rfl
theorem df22 : dflt Tryz.prog 22 = V.agg [V.int .i64 0, V.str ⟨#[]⟩, V.str ⟨#[]⟩, V.str ⟨#[]⟩, V.str ⟨#[]⟩, V.int .i64 0, V.str ⟨#[]⟩, V.slc false 3 []] := by kernel_rfl
theorem ze22 : zero Tryz.prog 22 = some [V.slc true 8 []] := by kernel_rfl
theorem sz23 : szOf Tryz.prog 23 = 1 := by kernel_rfl
theorem ag23 : isAgg Tryz.prog 23 = true := by kernel_rfl
theorem ze23 : zero Tryz.prog 23 = some [V.slc true 8 []] := by kernel_rfl
theorem la23 : layOf Tryz.prog 23 = some [(22, 0, 1)] := by kernel_rfl
theorem bd23 (H : Hint) (d : Nat) (ty : TypeId) (ps : Array (Nat × Operand)) (s : St) : evV Tryz.prog H d ty (.build 23 ps) s = aggO (buildL Tryz.prog [(22, 0, 1)] s [V.slc true 8 []] ps.toList) := build_lay la23 ze23
theorem xb23 (H : Hint) (d : Nat) (ty : TypeId) (ps : Array (Nat × Operand)) (pos : String) (aft : Array Edge) (g : Option (Nat × Bool)) : isX Tryz.prog H { dst := some d, op := .build 23 ps, type := ty, pos := pos, after := aft, guard := g } = !memN d H.arrs := by kernel_rfl
theorem fa23_0 (v : V) : vFieldAddr Tryz.prog 23 0 v = faddr 0 v := by kernel_rfl
theorem fg23_0 (s : St) (v : V) : vField Tryz.prog s 23 0 v = fget 0 1 false v := by kernel_rfl
theorem sz24 : szOf Tryz.prog 24 = 1 := by kernel_rfl
theorem ag24 : isAgg Tryz.prog 24 = true := by kernel_rfl
theorem ze24 : zero Tryz.prog 24 = some [V.slc true 8 []] := by kernel_rfl
theorem la24 : layOf Tryz.prog 24 = some [(22, 0, 1)] := by kernel_rfl
theorem bd24 (H : Hint) (d : Nat) (ty : TypeId) (ps : Array (Nat × Operand)) (s : St) : evV Tryz.prog H d ty (.build 24 ps) s = aggO (buildL Tryz.prog [(22, 0, 1)] s [V.slc true 8 []] ps.toList) := build_lay la24 ze24
theorem xb24 (H : Hint) (d : Nat) (ty : TypeId) (ps : Array (Nat × Operand)) (pos : String) (aft : Array Edge) (g : Option (Nat × Bool)) : isX Tryz.prog H { dst := some d, op := .build 24 ps, type := ty, pos := pos, after := aft, guard := g } = !memN d H.arrs := by kernel_rfl
theorem fa24_0 (v : V) : vFieldAddr Tryz.prog 24 0 v = faddr 0 v := by kernel_rfl
theorem fg24_0 (s : St) (v : V) : vField Tryz.prog s 24 0 v = fget 0 1 false v := by kernel_rfl
theorem sz25 : szOf Tryz.prog 25 = 1 := by kernel_rfl
theorem ag25 : isAgg Tryz.prog 25 = false := by kernel_rfl
theorem ze25 : zero Tryz.prog 25 = some [V.nilfn] := by kernel_rfl
theorem sz26 : szOf Tryz.prog 26 = 1 := by kernel_rfl
theorem ag26 : isAgg Tryz.prog 26 = false := by kernel_rfl
theorem ze26 : zero Tryz.prog 26 = some [V.nilfn] := by kernel_rfl
theorem u27 : Tryz.prog.underlying 27 = some (.slice 42) := by kernel_rfl
theorem sz27 : szOf Tryz.prog 27 = 1 := by kernel_rfl
theorem ag27 : isAgg Tryz.prog 27 = false := by kernel_rfl
theorem eo27 : elemOf Tryz.prog 27 = 42 := by kernel_rfl
theorem es27 : elemSz Tryz.prog 27 = 8 := by kernel_rfl
theorem gr27 : growB Tryz.prog 27 = true := by kernel_rfl
theorem df27 : dflt Tryz.prog 27 = V.agg [V.int .i64 0, V.str ⟨#[]⟩, V.str ⟨#[]⟩, V.str ⟨#[]⟩, V.str ⟨#[]⟩, V.int .i64 0, V.str ⟨#[]⟩, V.slc false 3 []] := by kernel_rfl
theorem ze27 : zero Tryz.prog 27 = some [V.slc true 8 []] := by kernel_rfl
theorem sz28 : szOf Tryz.prog 28 = 1 := by kernel_rfl
theorem ag28 : isAgg Tryz.prog 28 = true := by kernel_rfl
theorem ze28 : zero Tryz.prog 28 = some [V.slc true 8 []] := by kernel_rfl
theorem la28 : layOf Tryz.prog 28 = some [(27, 0, 1)] := by kernel_rfl
theorem bd28 (H : Hint) (d : Nat) (ty : TypeId) (ps : Array (Nat × Operand)) (s : St) : evV Tryz.prog H d ty (.build 28 ps) s = aggO (buildL Tryz.prog [(27, 0, 1)] s [V.slc true 8 []] ps.toList) := build_lay la28 ze28
theorem xb28 (H : Hint) (d : Nat) (ty : TypeId) (ps : Array (Nat × Operand)) (pos : String) (aft : Array Edge) (g : Option (Nat × Bool)) : isX Tryz.prog H { dst := some d, op := .build 28 ps, type := ty, pos := pos, after := aft, guard := g } = !memN d H.arrs := by kernel_rfl
theorem fa28_0 (v : V) : vFieldAddr Tryz.prog 28 0 v = faddr 0 v := by kernel_rfl
theorem fg28_0 (s : St) (v : V) : vField Tryz.prog s 28 0 v = fget 0 1 false v := by kernel_rfl
theorem sz29 : szOf Tryz.prog 29 = 1 := by kernel_rfl
theorem ag29 : isAgg Tryz.prog 29 = true := by kernel_rfl
theorem ze29 : zero Tryz.prog 29 = some [V.slc true 8 []] := by kernel_rfl
theorem la29 : layOf Tryz.prog 29 = some [(27, 0, 1)] := by kernel_rfl
theorem bd29 (H : Hint) (d : Nat) (ty : TypeId) (ps : Array (Nat × Operand)) (s : St) : evV Tryz.prog H d ty (.build 29 ps) s = aggO (buildL Tryz.prog [(27, 0, 1)] s [V.slc true 8 []] ps.toList) := build_lay la29 ze29
theorem xb29 (H : Hint) (d : Nat) (ty : TypeId) (ps : Array (Nat × Operand)) (pos : String) (aft : Array Edge) (g : Option (Nat × Bool)) : isX Tryz.prog H { dst := some d, op := .build 29 ps, type := ty, pos := pos, after := aft, guard := g } = !memN d H.arrs := by kernel_rfl
theorem fa29_0 (v : V) : vFieldAddr Tryz.prog 29 0 v = faddr 0 v := by kernel_rfl
theorem fg29_0 (s : St) (v : V) : vField Tryz.prog s 29 0 v = fget 0 1 false v := by kernel_rfl
theorem sz30 : szOf Tryz.prog 30 = 1 := by kernel_rfl
theorem ag30 : isAgg Tryz.prog 30 = false := by kernel_rfl
theorem ze30 : zero Tryz.prog 30 = some [V.nilfn] := by kernel_rfl
theorem sz31 : szOf Tryz.prog 31 = 1 := by kernel_rfl
theorem ag31 : isAgg Tryz.prog 31 = false := by kernel_rfl
theorem ze31 : zero Tryz.prog 31 = some [V.nilfn] := by kernel_rfl
theorem sz32 : szOf Tryz.prog 32 = 1 := by kernel_rfl
theorem ag32 : isAgg Tryz.prog 32 = false := by kernel_rfl
theorem ze32 : zero Tryz.prog 32 = some [V.nilfn] := by kernel_rfl
theorem sz33 : szOf Tryz.prog 33 = 1 := by kernel_rfl
theorem ag33 : isAgg Tryz.prog 33 = false := by kernel_rfl
theorem ze33 : zero Tryz.prog 33 = some [V.nilfn] := by kernel_rfl
theorem sz34 : szOf Tryz.prog 34 = 1 := by kernel_rfl
theorem ag34 : isAgg Tryz.prog 34 = false := by kernel_rfl
theorem ze34 : zero Tryz.prog 34 = some [V.nilfn] := by kernel_rfl
theorem sz35 : szOf Tryz.prog 35 = 1 := by kernel_rfl
theorem ag35 : isAgg Tryz.prog 35 = false := by kernel_rfl
theorem ze35 : zero Tryz.prog 35 = some [V.nilfn] := by kernel_rfl
theorem sz36 : szOf Tryz.prog 36 = 3 := by kernel_rfl
theorem ag36 : isAgg Tryz.prog 36 = true := by kernel_rfl
theorem ze36 : zero Tryz.prog 36 = some [V.str ⟨#[]⟩, V.str ⟨#[]⟩, V.str ⟨#[]⟩] := by kernel_rfl
theorem la36 : layOf Tryz.prog 36 = some [(9, 0, 1), (9, 1, 1), (9, 2, 1)] := by kernel_rfl
theorem bd36 (H : Hint) (d : Nat) (ty : TypeId) (ps : Array (Nat × Operand)) (s : St) : evV Tryz.prog H d ty (.build 36 ps) s = aggO (buildL Tryz.prog [(9, 0, 1), (9, 1, 1), (9, 2, 1)] s [V.str ⟨#[]⟩, V.str ⟨#[]⟩, V.str ⟨#[]⟩] ps.toList) := build_lay la36 ze36
theorem xb36 (H : Hint) (d : Nat) (ty : TypeId) (ps : Array (Nat × Operand)) (pos : String) (aft : Array Edge) (g : Option (Nat × Bool)) : isX Tryz.prog H { dst := some d, op := .build 36 ps, type := ty, pos := pos, after := aft, guard := g } = !memN d H.arrs := by kernel_rfl
theorem fa36_0 (v : V) : vFieldAddr Tryz.prog 36 0 v = faddr 0 v := by kernel_rfl
theorem fg36_0 (s : St) (v : V) : vField Tryz.prog s 36 0 v = fget 0 1 false v := by kernel_rfl
theorem fa36_1 (v : V) : vFieldAddr Tryz.prog 36 1 v = faddr 1 v := by kernel_rfl
theorem fg36_1 (s : St) (v : V) : vField Tryz.prog s 36 1 v = fget 1 1 false v := by kernel_rfl
theorem fa36_2 (v : V) : vFieldAddr Tryz.prog 36 2 v = faddr 2 v := by kernel_rfl
theorem fg36_2 (s : St) (v : V) : vField Tryz.prog s 36 2 v = fget 2 1 false v := by kernel_rfl
theorem sz37 : szOf Tryz.prog 37 = 3 := by kernel_rfl
theorem ag37 : isAgg Tryz.prog 37 = true := by kernel_rfl
theorem ze37 : zero Tryz.prog 37 = some [V.str ⟨#[]⟩, V.str ⟨#[]⟩, V.str ⟨#[]⟩] := by kernel_rfl
theorem la37 : layOf Tryz.prog 37 = some [(9, 0, 1), (9, 1, 1), (9, 2, 1)] := by kernel_rfl
theorem bd37 (H : Hint) (d : Nat) (ty : TypeId) (ps : Array (Nat × Operand)) (s : St) : evV Tryz.prog H d ty (.build 37 ps) s = aggO (buildL Tryz.prog [(9, 0, 1), (9, 1, 1), (9, 2, 1)] s [V.str ⟨#[]⟩, V.str ⟨#[]⟩, V.str ⟨#[]⟩] ps.toList) := build_lay la37 ze37
theorem xb37 (H : Hint) (d : Nat) (ty : TypeId) (ps : Array (Nat × Operand)) (pos : String) (aft : Array Edge) (g : Option (Nat × Bool)) : isX Tryz.prog H { dst := some d, op := .build 37 ps, type := ty, pos := pos, after := aft, guard := g } = !memN d H.arrs := by kernel_rfl
theorem fa37_0 (v : V) : vFieldAddr Tryz.prog 37 0 v = faddr 0 v := by kernel_rfl
theorem fg37_0 (s : St) (v : V) : vField Tryz.prog s 37 0 v = fget 0 1 false v := by kernel_rfl
theorem fa37_1 (v : V) : vFieldAddr Tryz.prog 37 1 v = faddr 1 v := by kernel_rfl
theorem fg37_1 (s : St) (v : V) : vField Tryz.prog s 37 1 v = fget 1 1 false v := by kernel_rfl
theorem fa37_2 (v : V) : vFieldAddr Tryz.prog 37 2 v = faddr 2 v := by kernel_rfl
theorem fg37_2 (s : St) (v : V) : vField Tryz.prog s 37 2 v = fget 2 1 false v := by kernel_rfl
theorem ev37 (x0 y0 : ByteArray) (x1 y1 : ByteArray) (x2 y2 : ByteArray) : eqV Tryz.prog 37 (.agg [V.str x0, V.str x1, V.str x2]) (.agg [V.str y0, V.str y1, V.str y2]) = some ((x0.toList == y0.toList) && ((x1.toList == y1.toList) && ((x2.toList == y2.toList) && true))) := by kernel_rfl
theorem eg37 : Tryz.prog.eqGuardType Tryz.prog.depth 37 = false := by kernel_rfl
theorem u38 : Tryz.prog.underlying 38 = some (.slice 40) := by kernel_rfl
theorem sz38 : szOf Tryz.prog 38 = 1 := by kernel_rfl
theorem ag38 : isAgg Tryz.prog 38 = false := by kernel_rfl
theorem eo38 : elemOf Tryz.prog 38 = 40 := by kernel_rfl
theorem es38 : elemSz Tryz.prog 38 = 3 := by kernel_rfl
theorem gr38 : growB Tryz.prog 38 = true := by kernel_rfl
theorem df38 : dflt Tryz.prog 38 = V.agg [V.int .i64 0, V.str ⟨#[]⟩, V.slc false 3 []] := by kernel_rfl
theorem ze38 : zero Tryz.prog 38 = some [V.slc true 3 []] := by kernel_rfl
theorem sz39 : szOf Tryz.prog 39 = 3 := by kernel_rfl
theorem ag39 : isAgg Tryz.prog 39 = true := by kernel_rfl
theorem ze39 : zero Tryz.prog 39 = some [V.int .i64 0, V.str ⟨#[]⟩, V.slc true 3 []] := by kernel_rfl
theorem la39 : layOf Tryz.prog 39 = some [(3, 0, 1), (9, 1, 1), (38, 2, 1)] := by kernel_rfl
theorem bd39 (H : Hint) (d : Nat) (ty : TypeId) (ps : Array (Nat × Operand)) (s : St) : evV Tryz.prog H d ty (.build 39 ps) s = aggO (buildL Tryz.prog [(3, 0, 1), (9, 1, 1), (38, 2, 1)] s [V.int .i64 0, V.str ⟨#[]⟩, V.slc true 3 []] ps.toList) := build_lay la39 ze39
theorem xb39 (H : Hint) (d : Nat) (ty : TypeId) (ps : Array (Nat × Operand)) (pos : String) (aft : Array Edge) (g : Option (Nat × Bool)) : isX Tryz.prog H { dst := some d, op := .build 39 ps, type := ty, pos := pos, after := aft, guard := g } = !memN d H.arrs := by kernel_rfl
theorem fa39_0 (v : V) : vFieldAddr Tryz.prog 39 0 v = faddr 0 v := by kernel_rfl
theorem fg39_0 (s : St) (v : V) : vField Tryz.prog s 39 0 v = fget 0 1 false v := by kernel_rfl
theorem fa39_1 (v : V) : vFieldAddr Tryz.prog 39 1 v = faddr 1 v := by kernel_rfl
theorem fg39_1 (s : St) (v : V) : vField Tryz.prog s 39 1 v = fget 1 1 false v := by kernel_rfl
theorem fa39_2 (v : V) : vFieldAddr Tryz.prog 39 2 v = faddr 2 v := by kernel_rfl
theorem fg39_2 (s : St) (v : V) : vField Tryz.prog s 39 2 v = fget 2 1 false v := by kernel_rfl
theorem sz40 : szOf Tryz.prog 40 = 3 := by kernel_rfl
theorem ag40 : isAgg Tryz.prog 40 = true := by kernel_rfl
theorem ze40 : zero Tryz.prog 40 = some [V.int .i64 0, V.str ⟨#[]⟩, V.slc true 3 []] := by kernel_rfl
theorem la40 : layOf Tryz.prog 40 = some [(3, 0, 1), (9, 1, 1), (38, 2, 1)] := by kernel_rfl
theorem bd40 (H : Hint) (d : Nat) (ty : TypeId) (ps : Array (Nat × Operand)) (s : St) : evV Tryz.prog H d ty (.build 40 ps) s = aggO (buildL Tryz.prog [(3, 0, 1), (9, 1, 1), (38, 2, 1)] s [V.int .i64 0, V.str ⟨#[]⟩, V.slc true 3 []] ps.toList) := build_lay la40 ze40
theorem xb40 (H : Hint) (d : Nat) (ty : TypeId) (ps : Array (Nat × Operand)) (pos : String) (aft : Array Edge) (g : Option (Nat × Bool)) : isX Tryz.prog H { dst := some d, op := .build 40 ps, type := ty, pos := pos, after := aft, guard := g } = !memN d H.arrs := by kernel_rfl
theorem fa40_0 (v : V) : vFieldAddr Tryz.prog 40 0 v = faddr 0 v := by kernel_rfl
theorem fg40_0 (s : St) (v : V) : vField Tryz.prog s 40 0 v = fget 0 1 false v := by kernel_rfl
theorem fa40_1 (v : V) : vFieldAddr Tryz.prog 40 1 v = faddr 1 v := by kernel_rfl
theorem fg40_1 (s : St) (v : V) : vField Tryz.prog s 40 1 v = fget 1 1 false v := by kernel_rfl
theorem fa40_2 (v : V) : vFieldAddr Tryz.prog 40 2 v = faddr 2 v := by kernel_rfl
theorem fg40_2 (s : St) (v : V) : vField Tryz.prog s 40 2 v = fget 2 1 false v := by kernel_rfl
theorem sz41 : szOf Tryz.prog 41 = 8 := by kernel_rfl
theorem ag41 : isAgg Tryz.prog 41 = true := by kernel_rfl
theorem ze41 : zero Tryz.prog 41 = some [V.int .i64 0, V.str ⟨#[]⟩, V.str ⟨#[]⟩, V.str ⟨#[]⟩, V.str ⟨#[]⟩, V.int .i64 0, V.str ⟨#[]⟩, V.slc true 3 []] := by kernel_rfl
theorem la41 : layOf Tryz.prog 41 = some [(3, 0, 1), (9, 1, 1), (37, 2, 3), (40, 5, 3)] := by kernel_rfl
theorem bd41 (H : Hint) (d : Nat) (ty : TypeId) (ps : Array (Nat × Operand)) (s : St) : evV Tryz.prog H d ty (.build 41 ps) s = aggO (buildL Tryz.prog [(3, 0, 1), (9, 1, 1), (37, 2, 3), (40, 5, 3)] s [V.int .i64 0, V.str ⟨#[]⟩, V.str ⟨#[]⟩, V.str ⟨#[]⟩, V.str ⟨#[]⟩, V.int .i64 0, V.str ⟨#[]⟩, V.slc true 3 []] ps.toList) := build_lay la41 ze41
theorem xb41 (H : Hint) (d : Nat) (ty : TypeId) (ps : Array (Nat × Operand)) (pos : String) (aft : Array Edge) (g : Option (Nat × Bool)) : isX Tryz.prog H { dst := some d, op := .build 41 ps, type := ty, pos := pos, after := aft, guard := g } = !memN d H.arrs := by kernel_rfl
theorem fa41_0 (v : V) : vFieldAddr Tryz.prog 41 0 v = faddr 0 v := by kernel_rfl
theorem fg41_0 (s : St) (v : V) : vField Tryz.prog s 41 0 v = fget 0 1 false v := by kernel_rfl
theorem fa41_1 (v : V) : vFieldAddr Tryz.prog 41 1 v = faddr 1 v := by kernel_rfl
theorem fg41_1 (s : St) (v : V) : vField Tryz.prog s 41 1 v = fget 1 1 false v := by kernel_rfl
theorem fa41_2 (v : V) : vFieldAddr Tryz.prog 41 2 v = faddr 2 v := by kernel_rfl
theorem fg41_2 (s : St) (v : V) : vField Tryz.prog s 41 2 v = fget 2 3 true v := by kernel_rfl
theorem fa41_3 (v : V) : vFieldAddr Tryz.prog 41 3 v = faddr 5 v := by kernel_rfl
theorem fg41_3 (s : St) (v : V) : vField Tryz.prog s 41 3 v = fget 5 3 true v := by kernel_rfl
theorem sz42 : szOf Tryz.prog 42 = 8 := by kernel_rfl
theorem ag42 : isAgg Tryz.prog 42 = true := by kernel_rfl
theorem ze42 : zero Tryz.prog 42 = some [V.int .i64 0, V.str ⟨#[]⟩, V.str ⟨#[]⟩, V.str ⟨#[]⟩, V.str ⟨#[]⟩, V.int .i64 0, V.str ⟨#[]⟩, V.slc true 3 []] := by kernel_rfl
theorem la42 : layOf Tryz.prog 42 = some [(3, 0, 1), (9, 1, 1), (37, 2, 3), (40, 5, 3)] := by kernel_rfl
theorem bd42 (H : Hint) (d : Nat) (ty : TypeId) (ps : Array (Nat × Operand)) (s : St) : evV Tryz.prog H d ty (.build 42 ps) s = aggO (buildL Tryz.prog [(3, 0, 1), (9, 1, 1), (37, 2, 3), (40, 5, 3)] s [V.int .i64 0, V.str ⟨#[]⟩, V.str ⟨#[]⟩, V.str ⟨#[]⟩, V.str ⟨#[]⟩, V.int .i64 0, V.str ⟨#[]⟩, V.slc true 3 []] ps.toList) := build_lay la42 ze42
theorem xb42 (H : Hint) (d : Nat) (ty : TypeId) (ps : Array (Nat × Operand)) (pos : String) (aft : Array Edge) (g : Option (Nat × Bool)) : isX Tryz.prog H { dst := some d, op := .build 42 ps, type := ty, pos := pos, after := aft, guard := g } = !memN d H.arrs := by kernel_rfl
theorem fa42_0 (v : V) : vFieldAddr Tryz.prog 42 0 v = faddr 0 v := by kernel_rfl
theorem fg42_0 (s : St) (v : V) : vField Tryz.prog s 42 0 v = fget 0 1 false v := by kernel_rfl
theorem fa42_1 (v : V) : vFieldAddr Tryz.prog 42 1 v = faddr 1 v := by kernel_rfl
theorem fg42_1 (s : St) (v : V) : vField Tryz.prog s 42 1 v = fget 1 1 false v := by kernel_rfl
theorem fa42_2 (v : V) : vFieldAddr Tryz.prog 42 2 v = faddr 2 v := by kernel_rfl
theorem fg42_2 (s : St) (v : V) : vField Tryz.prog s 42 2 v = fget 2 3 true v := by kernel_rfl
theorem fa42_3 (v : V) : vFieldAddr Tryz.prog 42 3 v = faddr 5 v := by kernel_rfl
theorem fg42_3 (s : St) (v : V) : vField Tryz.prog s 42 3 v = fget 5 3 true v := by kernel_rfl
theorem sz43 : szOf Tryz.prog 43 = 1 := by kernel_rfl
theorem ag43 : isAgg Tryz.prog 43 = false := by kernel_rfl
theorem ze43 : zero Tryz.prog 43 = some [V.nilfn] := by kernel_rfl
theorem sz44 : szOf Tryz.prog 44 = 1 := by kernel_rfl
theorem ag44 : isAgg Tryz.prog 44 = false := by kernel_rfl
theorem ze44 : zero Tryz.prog 44 = some [V.nilfn] := by kernel_rfl
theorem sz45 : szOf Tryz.prog 45 = 1 := by kernel_rfl
theorem ag45 : isAgg Tryz.prog 45 = false := by kernel_rfl
theorem ze45 : zero Tryz.prog 45 = some [V.nilfn] := by kernel_rfl
theorem sz46 : szOf Tryz.prog 46 = 3 := by kernel_rfl
theorem ag46 : isAgg Tryz.prog 46 = true := by kernel_rfl
theorem ze46 : zero Tryz.prog 46 = some [V.str ⟨#[]⟩, V.str ⟨#[]⟩, V.str ⟨#[]⟩] := by kernel_rfl
theorem la46 : layOf Tryz.prog 46 = some [(9, 0, 1), (9, 1, 1), (9, 2, 1)] := by kernel_rfl
theorem bd46 (H : Hint) (d : Nat) (ty : TypeId) (ps : Array (Nat × Operand)) (s : St) : evV Tryz.prog H d ty (.build 46 ps) s = aggO (buildL Tryz.prog [(9, 0, 1), (9, 1, 1), (9, 2, 1)] s [V.str ⟨#[]⟩, V.str ⟨#[]⟩, V.str ⟨#[]⟩] ps.toList) := build_lay la46 ze46
theorem xb46 (H : Hint) (d : Nat) (ty : TypeId) (ps : Array (Nat × Operand)) (pos : String) (aft : Array Edge) (g : Option (Nat × Bool)) : isX Tryz.prog H { dst := some d, op := .build 46 ps, type := ty, pos := pos, after := aft, guard := g } = !memN d H.arrs := by kernel_rfl
theorem fa46_0 (v : V) : vFieldAddr Tryz.prog 46 0 v = faddr 0 v := by kernel_rfl
theorem fg46_0 (s : St) (v : V) : vField Tryz.prog s 46 0 v = fget 0 1 false v := by kernel_rfl
theorem fa46_1 (v : V) : vFieldAddr Tryz.prog 46 1 v = faddr 1 v := by kernel_rfl
theorem fg46_1 (s : St) (v : V) : vField Tryz.prog s 46 1 v = fget 1 1 false v := by kernel_rfl
theorem fa46_2 (v : V) : vFieldAddr Tryz.prog 46 2 v = faddr 2 v := by kernel_rfl
theorem fg46_2 (s : St) (v : V) : vField Tryz.prog s 46 2 v = fget 2 1 false v := by kernel_rfl
theorem ev46 (x0 y0 : ByteArray) (x1 y1 : ByteArray) (x2 y2 : ByteArray) : eqV Tryz.prog 46 (.agg [V.str x0, V.str x1, V.str x2]) (.agg [V.str y0, V.str y1, V.str y2]) = some ((x0.toList == y0.toList) && ((x1.toList == y1.toList) && ((x2.toList == y2.toList) && true))) := by kernel_rfl
theorem eg46 : Tryz.prog.eqGuardType Tryz.prog.depth 46 = false := by kernel_rfl
theorem u47 : Tryz.prog.underlying 47 = some (.slice 49) := by kernel_rfl
theorem sz47 : szOf Tryz.prog 47 = 1 := by kernel_rfl
theorem ag47 : isAgg Tryz.prog 47 = false := by kernel_rfl
theorem eo47 : elemOf Tryz.prog 47 = 49 := by kernel_rfl
theorem es47 : elemSz Tryz.prog 47 = 3 := by kernel_rfl
theorem gr47 : growB Tryz.prog 47 = true := by kernel_rfl
theorem df47 : dflt Tryz.prog 47 = V.agg [V.int .i64 0, V.str ⟨#[]⟩, V.slc false 3 []] := by kernel_rfl
theorem ze47 : zero Tryz.prog 47 = some [V.slc true 3 []] := by kernel_rfl
theorem sz48 : szOf Tryz.prog 48 = 3 := by kernel_rfl
theorem ag48 : isAgg Tryz.prog 48 = true := by kernel_rfl
theorem ze48 : zero Tryz.prog 48 = some [V.int .i64 0, V.str ⟨#[]⟩, V.slc true 3 []] := by kernel_rfl
theorem la48 : layOf Tryz.prog 48 = some [(3, 0, 1), (9, 1, 1), (47, 2, 1)] := by kernel_rfl
theorem bd48 (H : Hint) (d : Nat) (ty : TypeId) (ps : Array (Nat × Operand)) (s : St) : evV Tryz.prog H d ty (.build 48 ps) s = aggO (buildL Tryz.prog [(3, 0, 1), (9, 1, 1), (47, 2, 1)] s [V.int .i64 0, V.str ⟨#[]⟩, V.slc true 3 []] ps.toList) := build_lay la48 ze48
theorem xb48 (H : Hint) (d : Nat) (ty : TypeId) (ps : Array (Nat × Operand)) (pos : String) (aft : Array Edge) (g : Option (Nat × Bool)) : isX Tryz.prog H { dst := some d, op := .build 48 ps, type := ty, pos := pos, after := aft, guard := g } = !memN d H.arrs := by kernel_rfl
theorem fa48_0 (v : V) : vFieldAddr Tryz.prog 48 0 v = faddr 0 v := by kernel_rfl
theorem fg48_0 (s : St) (v : V) : vField Tryz.prog s 48 0 v = fget 0 1 false v := by kernel_rfl
theorem fa48_1 (v : V) : vFieldAddr Tryz.prog 48 1 v = faddr 1 v := by kernel_rfl
theorem fg48_1 (s : St) (v : V) : vField Tryz.prog s 48 1 v = fget 1 1 false v := by kernel_rfl
theorem fa48_2 (v : V) : vFieldAddr Tryz.prog 48 2 v = faddr 2 v := by kernel_rfl
theorem fg48_2 (s : St) (v : V) : vField Tryz.prog s 48 2 v = fget 2 1 false v := by kernel_rfl
theorem sz49 : szOf Tryz.prog 49 = 3 := by kernel_rfl
theorem ag49 : isAgg Tryz.prog 49 = true := by kernel_rfl
theorem ze49 : zero Tryz.prog 49 = some [V.int .i64 0, V.str ⟨#[]⟩, V.slc true 3 []] := by kernel_rfl
theorem la49 : layOf Tryz.prog 49 = some [(3, 0, 1), (9, 1, 1), (47, 2, 1)] := by kernel_rfl
theorem bd49 (H : Hint) (d : Nat) (ty : TypeId) (ps : Array (Nat × Operand)) (s : St) : evV Tryz.prog H d ty (.build 49 ps) s = aggO (buildL Tryz.prog [(3, 0, 1), (9, 1, 1), (47, 2, 1)] s [V.int .i64 0, V.str ⟨#[]⟩, V.slc true 3 []] ps.toList) := build_lay la49 ze49
theorem xb49 (H : Hint) (d : Nat) (ty : TypeId) (ps : Array (Nat × Operand)) (pos : String) (aft : Array Edge) (g : Option (Nat × Bool)) : isX Tryz.prog H { dst := some d, op := .build 49 ps, type := ty, pos := pos, after := aft, guard := g } = !memN d H.arrs := by kernel_rfl
theorem fa49_0 (v : V) : vFieldAddr Tryz.prog 49 0 v = faddr 0 v := by kernel_rfl
theorem fg49_0 (s : St) (v : V) : vField Tryz.prog s 49 0 v = fget 0 1 false v := by kernel_rfl
theorem fa49_1 (v : V) : vFieldAddr Tryz.prog 49 1 v = faddr 1 v := by kernel_rfl
theorem fg49_1 (s : St) (v : V) : vField Tryz.prog s 49 1 v = fget 1 1 false v := by kernel_rfl
theorem fa49_2 (v : V) : vFieldAddr Tryz.prog 49 2 v = faddr 2 v := by kernel_rfl
theorem fg49_2 (s : St) (v : V) : vField Tryz.prog s 49 2 v = fget 2 1 false v := by kernel_rfl
theorem sz50 : szOf Tryz.prog 50 = 8 := by kernel_rfl
theorem ag50 : isAgg Tryz.prog 50 = true := by kernel_rfl
theorem ze50 : zero Tryz.prog 50 = some [V.int .i64 0, V.str ⟨#[]⟩, V.str ⟨#[]⟩, V.str ⟨#[]⟩, V.str ⟨#[]⟩, V.int .i64 0, V.str ⟨#[]⟩, V.slc true 3 []] := by kernel_rfl
theorem la50 : layOf Tryz.prog 50 = some [(3, 0, 1), (9, 1, 1), (46, 2, 3), (49, 5, 3)] := by kernel_rfl
theorem bd50 (H : Hint) (d : Nat) (ty : TypeId) (ps : Array (Nat × Operand)) (s : St) : evV Tryz.prog H d ty (.build 50 ps) s = aggO (buildL Tryz.prog [(3, 0, 1), (9, 1, 1), (46, 2, 3), (49, 5, 3)] s [V.int .i64 0, V.str ⟨#[]⟩, V.str ⟨#[]⟩, V.str ⟨#[]⟩, V.str ⟨#[]⟩, V.int .i64 0, V.str ⟨#[]⟩, V.slc true 3 []] ps.toList) := build_lay la50 ze50
theorem xb50 (H : Hint) (d : Nat) (ty : TypeId) (ps : Array (Nat × Operand)) (pos : String) (aft : Array Edge) (g : Option (Nat × Bool)) : isX Tryz.prog H { dst := some d, op := .build 50 ps, type := ty, pos := pos, after := aft, guard := g } = !memN d H.arrs := by kernel_rfl
theorem fa50_0 (v : V) : vFieldAddr Tryz.prog 50 0 v = faddr 0 v := by kernel_rfl
theorem fg50_0 (s : St) (v : V) : vField Tryz.prog s 50 0 v = fget 0 1 false v := by kernel_rfl
theorem fa50_1 (v : V) : vFieldAddr Tryz.prog 50 1 v = faddr 1 v := by kernel_rfl
theorem fg50_1 (s : St) (v : V) : vField Tryz.prog s 50 1 v = fget 1 1 false v := by kernel_rfl
theorem fa50_2 (v : V) : vFieldAddr Tryz.prog 50 2 v = faddr 2 v := by kernel_rfl
theorem fg50_2 (s : St) (v : V) : vField Tryz.prog s 50 2 v = fget 2 3 true v := by kernel_rfl
theorem fa50_3 (v : V) : vFieldAddr Tryz.prog 50 3 v = faddr 5 v := by kernel_rfl
theorem fg50_3 (s : St) (v : V) : vField Tryz.prog s 50 3 v = fget 5 3 true v := by kernel_rfl
theorem sz51 : szOf Tryz.prog 51 = 8 := by kernel_rfl
theorem ag51 : isAgg Tryz.prog 51 = true := by kernel_rfl
theorem ze51 : zero Tryz.prog 51 = some [V.int .i64 0, V.str ⟨#[]⟩, V.str ⟨#[]⟩, V.str ⟨#[]⟩, V.str ⟨#[]⟩, V.int .i64 0, V.str ⟨#[]⟩, V.slc true 3 []] := by kernel_rfl
theorem la51 : layOf Tryz.prog 51 = some [(3, 0, 1), (9, 1, 1), (46, 2, 3), (49, 5, 3)] := by kernel_rfl
theorem bd51 (H : Hint) (d : Nat) (ty : TypeId) (ps : Array (Nat × Operand)) (s : St) : evV Tryz.prog H d ty (.build 51 ps) s = aggO (buildL Tryz.prog [(3, 0, 1), (9, 1, 1), (46, 2, 3), (49, 5, 3)] s [V.int .i64 0, V.str ⟨#[]⟩, V.str ⟨#[]⟩, V.str ⟨#[]⟩, V.str ⟨#[]⟩, V.int .i64 0, V.str ⟨#[]⟩, V.slc true 3 []] ps.toList) := build_lay la51 ze51
theorem xb51 (H : Hint) (d : Nat) (ty : TypeId) (ps : Array (Nat × Operand)) (pos : String) (aft : Array Edge) (g : Option (Nat × Bool)) : isX Tryz.prog H { dst := some d, op := .build 51 ps, type := ty, pos := pos, after := aft, guard := g } = !memN d H.arrs := by kernel_rfl
theorem fa51_0 (v : V) : vFieldAddr Tryz.prog 51 0 v = faddr 0 v := by kernel_rfl
theorem fg51_0 (s : St) (v : V) : vField Tryz.prog s 51 0 v = fget 0 1 false v := by kernel_rfl
theorem fa51_1 (v : V) : vFieldAddr Tryz.prog 51 1 v = faddr 1 v := by kernel_rfl
theorem fg51_1 (s : St) (v : V) : vField Tryz.prog s 51 1 v = fget 1 1 false v := by kernel_rfl
theorem fa51_2 (v : V) : vFieldAddr Tryz.prog 51 2 v = faddr 2 v := by kernel_rfl
theorem fg51_2 (s : St) (v : V) : vField Tryz.prog s 51 2 v = fget 2 3 true v := by kernel_rfl
theorem fa51_3 (v : V) : vFieldAddr Tryz.prog 51 3 v = faddr 5 v := by kernel_rfl
theorem fg51_3 (s : St) (v : V) : vField Tryz.prog s 51 3 v = fget 5 3 true v := by kernel_rfl
theorem sz52 : szOf Tryz.prog 52 = 1 := by kernel_rfl
theorem ag52 : isAgg Tryz.prog 52 = false := by kernel_rfl
theorem ze52 : zero Tryz.prog 52 = some [V.nilfn] := by kernel_rfl
theorem sz53 : szOf Tryz.prog 53 = 1 := by kernel_rfl
theorem ag53 : isAgg Tryz.prog 53 = false := by kernel_rfl
theorem ze53 : zero Tryz.prog 53 = some [V.nilfn] := by kernel_rfl
theorem sz54 : szOf Tryz.prog 54 = 1 := by kernel_rfl
theorem ag54 : isAgg Tryz.prog 54 = false := by kernel_rfl
theorem ze54 : zero Tryz.prog 54 = some [V.nilfn] := by kernel_rfl
theorem sz55 : szOf Tryz.prog 55 = 1 := by kernel_rfl
theorem ag55 : isAgg Tryz.prog 55 = false := by kernel_rfl
theorem ze55 : zero Tryz.prog 55 = some [V.nilfn] := by kernel_rfl
theorem sz56 : szOf Tryz.prog 56 = 1 := by kernel_rfl
theorem ag56 : isAgg Tryz.prog 56 = false := by kernel_rfl
theorem ze56 : zero Tryz.prog 56 = some [V.nilfn] := by kernel_rfl
theorem sz57 : szOf Tryz.prog 57 = 1 := by kernel_rfl
theorem ag57 : isAgg Tryz.prog 57 = false := by kernel_rfl
theorem ze57 : zero Tryz.prog 57 = some [V.nilfn] := by kernel_rfl
theorem sz58 : szOf Tryz.prog 58 = 1 := by kernel_rfl
theorem ag58 : isAgg Tryz.prog 58 = false := by kernel_rfl
theorem ze58 : zero Tryz.prog 58 = some [V.nilfn] := by kernel_rfl
theorem sz59 : szOf Tryz.prog 59 = 1 := by kernel_rfl
theorem ag59 : isAgg Tryz.prog 59 = false := by kernel_rfl
theorem ze59 : zero Tryz.prog 59 = some [V.nilfn] := by kernel_rfl
theorem sz60 : szOf Tryz.prog 60 = 1 := by kernel_rfl
theorem ag60 : isAgg Tryz.prog 60 = false := by kernel_rfl
theorem ze60 : zero Tryz.prog 60 = some [V.nilfn] := by kernel_rfl
theorem sz61 : szOf Tryz.prog 61 = 1 := by kernel_rfl
theorem ag61 : isAgg Tryz.prog 61 = false := by kernel_rfl
theorem ze61 : zero Tryz.prog 61 = some [V.nilfn] := by kernel_rfl
theorem sz62 : szOf Tryz.prog 62 = 1 := by kernel_rfl
theorem ag62 : isAgg Tryz.prog 62 = false := by kernel_rfl
theorem ze62 : zero Tryz.prog 62 = some [V.nilfn] := by kernel_rfl
theorem u63 : Tryz.prog.underlying 63 = some (.slice 4) := by kernel_rfl
theorem sz63 : szOf Tryz.prog 63 = 1 := by kernel_rfl
theorem ag63 : isAgg Tryz.prog 63 = false := by kernel_rfl
theorem eo63 : elemOf Tryz.prog 63 = 4 := by kernel_rfl
theorem es63 : elemSz Tryz.prog 63 = 1 := by kernel_rfl
theorem gr63 : growB Tryz.prog 63 = true := by kernel_rfl
theorem df63 : dflt Tryz.prog 63 = V.bool false := by kernel_rfl
theorem ze63 : zero Tryz.prog 63 = some [V.slc true 1 []] := by kernel_rfl
theorem u64 : Tryz.prog.underlying 64 = some (.slice 91) := by kernel_rfl
theorem sz64 : szOf Tryz.prog 64 = 1 := by kernel_rfl
theorem ag64 : isAgg Tryz.prog 64 = false := by kernel_rfl
theorem eo64 : elemOf Tryz.prog 64 = 91 := by kernel_rfl
theorem es64 : elemSz Tryz.prog 64 = 1 := by kernel_rfl
theorem gr64 : growB Tryz.prog 64 = true := by kernel_rfl
theorem df64 : dflt Tryz.prog 64 = V.slc false 1 [] := by kernel_rfl
theorem ze64 : zero Tryz.prog 64 = some [V.slc true 1 []] := by kernel_rfl
theorem sz65 : szOf Tryz.prog 65 = 2 := by kernel_rfl
theorem ag65 : isAgg Tryz.prog 65 = true := by kernel_rfl
theorem ze65 : zero Tryz.prog 65 = some [V.slc true 1 [], V.slc true 1 []] := by kernel_rfl
theorem la65 : layOf Tryz.prog 65 = some [(63, 0, 1), (64, 1, 1)] := by kernel_rfl
theorem bd65 (H : Hint) (d : Nat) (ty : TypeId) (ps : Array (Nat × Operand)) (s : St) : evV Tryz.prog H d ty (.build 65 ps) s = aggO (buildL Tryz.prog [(63, 0, 1), (64, 1, 1)] s [V.slc true 1 [], V.slc true 1 []] ps.toList) := build_lay la65 ze65
theorem xb65 (H : Hint) (d : Nat) (ty : TypeId) (ps : Array (Nat × Operand)) (pos : String) (aft : Array Edge) (g : Option (Nat × Bool)) : isX Tryz.prog H { dst := some d, op := .build 65 ps, type := ty, pos := pos, after := aft, guard := g } = !memN d H.arrs := by kernel_rfl
theorem fa65_0 (v : V) : vFieldAddr Tryz.prog 65 0 v = faddr 0 v := by kernel_rfl
theorem fg65_0 (s : St) (v : V) : vField Tryz.prog s 65 0 v = fget 0 1 false v := by kernel_rfl
theorem fa65_1 (v : V) : vFieldAddr Tryz.prog 65 1 v = faddr 1 v := by kernel_rfl
theorem fg65_1 (s : St) (v : V) : vField Tryz.prog s 65 1 v = fget 1 1 false v := by kernel_rfl
theorem sz66 : szOf Tryz.prog 66 = 2 := by kernel_rfl
theorem ag66 : isAgg Tryz.prog 66 = true := by kernel_rfl
theorem ze66 : zero Tryz.prog 66 = some [V.slc true 1 [], V.slc true 1 []] := by kernel_rfl
theorem la66 : layOf Tryz.prog 66 = some [(63, 0, 1), (64, 1, 1)] := by kernel_rfl
theorem bd66 (H : Hint) (d : Nat) (ty : TypeId) (ps : Array (Nat × Operand)) (s : St) : evV Tryz.prog H d ty (.build 66 ps) s = aggO (buildL Tryz.prog [(63, 0, 1), (64, 1, 1)] s [V.slc true 1 [], V.slc true 1 []] ps.toList) := build_lay la66 ze66
theorem xb66 (H : Hint) (d : Nat) (ty : TypeId) (ps : Array (Nat × Operand)) (pos : String) (aft : Array Edge) (g : Option (Nat × Bool)) : isX Tryz.prog H { dst := some d, op := .build 66 ps, type := ty, pos := pos, after := aft, guard := g } = !memN d H.arrs := by kernel_rfl
theorem fa66_0 (v : V) : vFieldAddr Tryz.prog 66 0 v = faddr 0 v := by kernel_rfl
theorem fg66_0 (s : St) (v : V) : vField Tryz.prog s 66 0 v = fget 0 1 false v := by kernel_rfl
theorem fa66_1 (v : V) : vFieldAddr Tryz.prog 66 1 v = faddr 1 v := by kernel_rfl
theorem fg66_1 (s : St) (v : V) : vField Tryz.prog s 66 1 v = fget 1 1 false v := by kernel_rfl
theorem sz68 : szOf Tryz.prog 68 = 1 := by kernel_rfl
theorem ag68 : isAgg Tryz.prog 68 = false := by kernel_rfl
theorem ze68 : zero Tryz.prog 68 = some [V.nilfn] := by kernel_rfl
theorem sz69 : szOf Tryz.prog 69 = 1 := by kernel_rfl
theorem ag69 : isAgg Tryz.prog 69 = false := by kernel_rfl
theorem ze69 : zero Tryz.prog 69 = some [V.nilfn] := by kernel_rfl
theorem sz70 : szOf Tryz.prog 70 = 1 := by kernel_rfl
theorem ag70 : isAgg Tryz.prog 70 = false := by kernel_rfl
theorem ze70 : zero Tryz.prog 70 = some [V.nilfn] := by kernel_rfl
theorem sz71 : szOf Tryz.prog 71 = 1 := by kernel_rfl
theorem ag71 : isAgg Tryz.prog 71 = false := by kernel_rfl
theorem ze71 : zero Tryz.prog 71 = some [V.nilfn] := by kernel_rfl
theorem sz72 : szOf Tryz.prog 72 = 1 := by kernel_rfl
theorem ag72 : isAgg Tryz.prog 72 = false := by kernel_rfl
theorem ze72 : zero Tryz.prog 72 = some [V.nilfn] := by kernel_rfl
theorem sz73 : szOf Tryz.prog 73 = 1 := by kernel_rfl
theorem ag73 : isAgg Tryz.prog 73 = false := by kernel_rfl
theorem ze73 : zero Tryz.prog 73 = some [V.nilfn] := by kernel_rfl
theorem sz74 : szOf Tryz.prog 74 = 1 := by kernel_rfl
theorem ag74 : isAgg Tryz.prog 74 = false := by kernel_rfl
theorem ze74 : zero Tryz.prog 74 = some [V.nilfn] := by kernel_rfl
theorem sz75 : szOf Tryz.prog 75 = 1 := by kernel_rfl
theorem ag75 : isAgg Tryz.prog 75 = false := by kernel_rfl
theorem ze75 : zero Tryz.prog 75 = some [V.nilfn] := by kernel_rfl
theorem sz76 : szOf Tryz.prog 76 = 1 := by kernel_rfl
theorem ag76 : isAgg Tryz.prog 76 = false := by kernel_rfl
theorem ze76 : zero Tryz.prog 76 = some [V.nilfn] := by kernel_rfl
theorem sz77 : szOf Tryz.prog 77 = 1 := by kernel_rfl
theorem ag77 : isAgg Tryz.prog 77 = false := by kernel_rfl
theorem ze77 : zero Tryz.prog 77 = some [V.nilfn] := by kernel_rfl
theorem u78 : Tryz.prog.underlying 78 = some (.slice 9) := by kernel_rfl
theorem sz78 : szOf Tryz.prog 78 = 1 := by kernel_rfl
theorem ag78 : isAgg Tryz.prog 78 = false := by kernel_rfl
theorem eo78 : elemOf Tryz.prog 78 = 9 := by kernel_rfl
theorem es78 : elemSz Tryz.prog 78 = 1 := by kernel_rfl
theorem gr78 : growB Tryz.prog 78 = true := by kernel_rfl
theorem df78 : dflt Tryz.prog 78 = V.str ⟨#[]⟩ := by kernel_rfl
theorem ze78 : zero Tryz.prog 78 = some [V.slc true 1 []] := by kernel_rfl
theorem sz79 : szOf Tryz.prog 79 = 1 := by kernel_rfl
theorem ag79 : isAgg Tryz.prog 79 = false := by kernel_rfl
theorem ze79 : zero Tryz.prog 79 = some [V.nilfn] := by kernel_rfl
theorem sz80 : szOf Tryz.prog 80 = 1 := by kernel_rfl
theorem ag80 : isAgg Tryz.prog 80 = false := by kernel_rfl
theorem ze80 : zero Tryz.prog 80 = some [V.nilfn] := by kernel_rfl
theorem sz81 : szOf Tryz.prog 81 = 1 := by kernel_rfl
theorem ag81 : isAgg Tryz.prog 81 = false := by kernel_rfl
theorem ze81 : zero Tryz.prog 81 = some [V.nilfn] := by kernel_rfl
theorem sz82 : szOf Tryz.prog 82 = 1 := by kernel_rfl
theorem ag82 : isAgg Tryz.prog 82 = false := by kernel_rfl
theorem ze82 : zero Tryz.prog 82 = some [V.nilfn] := by kernel_rfl
theorem sz83 : szOf Tryz.prog 83 = 1 := by kernel_rfl
theorem ag83 : isAgg Tryz.prog 83 = false := by kernel_rfl
theorem ze83 : zero Tryz.prog 83 = some [V.nilfn] := by kernel_rfl
theorem sz84 : szOf Tryz.prog 84 = 1 := by kernel_rfl
theorem ag84 : isAgg Tryz.prog 84 = false := by kernel_rfl
theorem ze84 : zero Tryz.prog 84 = some [V.nilfn] := by kernel_rfl
theorem sz85 : szOf Tryz.prog 85 = 1 := by kernel_rfl
theorem ag85 : isAgg Tryz.prog 85 = false := by kernel_rfl
theorem ze85 : zero Tryz.prog 85 = some [V.nilfn] := by kernel_rfl
theorem sz86 : szOf Tryz.prog 86 = 1 := by kernel_rfl
theorem ag86 : isAgg Tryz.prog 86 = false := by kernel_rfl
theorem ze86 : zero Tryz.prog 86 = some [V.nilfn] := by kernel_rfl
theorem sz87 : szOf Tryz.prog 87 = 1 := by kernel_rfl
theorem ag87 : isAgg Tryz.prog 87 = false := by kernel_rfl
theorem ze87 : zero Tryz.prog 87 = some [V.nilfn] := by kernel_rfl
theorem sz88 : szOf Tryz.prog 88 = 1 := by kernel_rfl
theorem ag88 : isAgg Tryz.prog 88 = false := by kernel_rfl
theorem ze88 : zero Tryz.prog 88 = some [V.nilfn] := by kernel_rfl
theorem u89 : Tryz.prog.underlying 89 = some (.slice 66) := by kernel_rfl
theorem sz89 : szOf Tryz.prog 89 = 1 := by kernel_rfl
theorem ag89 : isAgg Tryz.prog 89 = false := by kernel_rfl
theorem eo89 : elemOf Tryz.prog 89 = 66 := by kernel_rfl
theorem es89 : elemSz Tryz.prog 89 = 2 := by kernel_rfl
theorem gr89 : growB Tryz.prog 89 = true := by kernel_rfl
theorem df89 : dflt Tryz.prog 89 = V.agg [V.slc false 1 [], V.slc false 1 []] := by kernel_rfl
theorem ze89 : zero Tryz.prog 89 = some [V.slc true 2 []] := by kernel_rfl
theorem sz90 : szOf Tryz.prog 90 = 1 := by kernel_rfl
theorem ag90 : isAgg Tryz.prog 90 = false := by kernel_rfl
theorem ze90 : zero Tryz.prog 90 = some [V.nilfn] := by kernel_rfl
theorem u91 : Tryz.prog.underlying 91 = some (.slice 3) := by kernel_rfl
theorem sz91 : szOf Tryz.prog 91 = 1 := by kernel_rfl
theorem ag91 : isAgg Tryz.prog 91 = false := by kernel_rfl
theorem eo91 : elemOf Tryz.prog 91 = 3 := by kernel_rfl
theorem es91 : elemSz Tryz.prog 91 = 1 := by kernel_rfl
theorem gr91 : growB Tryz.prog 91 = true := by kernel_rfl
theorem df91 : dflt Tryz.prog 91 = V.int .i64 0 := by kernel_rfl
theorem ze91 : zero Tryz.prog 91 = some [V.slc true 1 []] := by kernel_rfl
theorem sz92 : szOf Tryz.prog 92 = 1 := by kernel_rfl
theorem ag92 : isAgg Tryz.prog 92 = false := by kernel_rfl
theorem ze92 : zero Tryz.prog 92 = some [V.nilfn] := by kernel_rfl
theorem sz93 : szOf Tryz.prog 93 = 1 := by kernel_rfl
theorem ag93 : isAgg Tryz.prog 93 = false := by kernel_rfl
theorem ze93 : zero Tryz.prog 93 = some [V.nilfn] := by kernel_rfl
theorem sz94 : szOf Tryz.prog 94 = 1 := by kernel_rfl
theorem ag94 : isAgg Tryz.prog 94 = false := by kernel_rfl
theorem ze94 : zero Tryz.prog 94 = some [V.nilfn] := by kernel_rfl
theorem sz95 : szOf Tryz.prog 95 = 3 := by kernel_rfl
theorem ag95 : isAgg Tryz.prog 95 = true := by kernel_rfl
theorem ze95 : zero Tryz.prog 95 = some [V.int .i64 0, V.slc true 1 [], V.bool false] := by kernel_rfl
theorem la95 : layOf Tryz.prog 95 = some [(3, 0, 1), (91, 1, 1), (4, 2, 1)] := by kernel_rfl
theorem bd95 (H : Hint) (d : Nat) (ty : TypeId) (ps : Array (Nat × Operand)) (s : St) : evV Tryz.prog H d ty (.build 95 ps) s = aggO (buildL Tryz.prog [(3, 0, 1), (91, 1, 1), (4, 2, 1)] s [V.int .i64 0, V.slc true 1 [], V.bool false] ps.toList) := build_lay la95 ze95
theorem xb95 (H : Hint) (d : Nat) (ty : TypeId) (ps : Array (Nat × Operand)) (pos : String) (aft : Array Edge) (g : Option (Nat × Bool)) : isX Tryz.prog H { dst := some d, op := .build 95 ps, type := ty, pos := pos, after := aft, guard := g } = !memN d H.arrs := by kernel_rfl
theorem fa95_0 (v : V) : vFieldAddr Tryz.prog 95 0 v = faddr 0 v := by kernel_rfl
theorem fg95_0 (s : St) (v : V) : vField Tryz.prog s 95 0 v = fget 0 1 false v := by kernel_rfl
theorem fa95_1 (v : V) : vFieldAddr Tryz.prog 95 1 v = faddr 1 v := by kernel_rfl
theorem fg95_1 (s : St) (v : V) : vField Tryz.prog s 95 1 v = fget 1 1 false v := by kernel_rfl
theorem fa95_2 (v : V) : vFieldAddr Tryz.prog 95 2 v = faddr 2 v := by kernel_rfl
theorem fg95_2 (s : St) (v : V) : vField Tryz.prog s 95 2 v = fget 2 1 false v := by kernel_rfl
theorem sz96 : szOf Tryz.prog 96 = 3 := by kernel_rfl
theorem ag96 : isAgg Tryz.prog 96 = true := by kernel_rfl
theorem ze96 : zero Tryz.prog 96 = some [V.int .i64 0, V.slc true 1 [], V.bool false] := by kernel_rfl
theorem la96 : layOf Tryz.prog 96 = some [(3, 0, 1), (91, 1, 1), (4, 2, 1)] := by kernel_rfl
theorem bd96 (H : Hint) (d : Nat) (ty : TypeId) (ps : Array (Nat × Operand)) (s : St) : evV Tryz.prog H d ty (.build 96 ps) s = aggO (buildL Tryz.prog [(3, 0, 1), (91, 1, 1), (4, 2, 1)] s [V.int .i64 0, V.slc true 1 [], V.bool false] ps.toList) := build_lay la96 ze96
theorem xb96 (H : Hint) (d : Nat) (ty : TypeId) (ps : Array (Nat × Operand)) (pos : String) (aft : Array Edge) (g : Option (Nat × Bool)) : isX Tryz.prog H { dst := some d, op := .build 96 ps, type := ty, pos := pos, after := aft, guard := g } = !memN d H.arrs := by kernel_rfl
theorem fa96_0 (v : V) : vFieldAddr Tryz.prog 96 0 v = faddr 0 v := by kernel_rfl
theorem fg96_0 (s : St) (v : V) : vField Tryz.prog s 96 0 v = fget 0 1 false v := by kernel_rfl
theorem fa96_1 (v : V) : vFieldAddr Tryz.prog 96 1 v = faddr 1 v := by kernel_rfl
theorem fg96_1 (s : St) (v : V) : vField Tryz.prog s 96 1 v = fget 1 1 false v := by kernel_rfl
theorem fa96_2 (v : V) : vFieldAddr Tryz.prog 96 2 v = faddr 2 v := by kernel_rfl
theorem fg96_2 (s : St) (v : V) : vField Tryz.prog s 96 2 v = fget 2 1 false v := by kernel_rfl
theorem u97 : Tryz.prog.underlying 97 = some (.slice 96) := by kernel_rfl
theorem sz97 : szOf Tryz.prog 97 = 1 := by kernel_rfl
theorem ag97 : isAgg Tryz.prog 97 = false := by kernel_rfl
theorem eo97 : elemOf Tryz.prog 97 = 96 := by kernel_rfl
theorem es97 : elemSz Tryz.prog 97 = 3 := by kernel_rfl
theorem gr97 : growB Tryz.prog 97 = true := by kernel_rfl
theorem df97 : dflt Tryz.prog 97 = V.agg [V.int .i64 0, V.slc false 1 [], V.bool false] := by kernel_rfl
theorem ze97 : zero Tryz.prog 97 = some [V.slc true 3 []] := by kernel_rfl
theorem sz98 : szOf Tryz.prog 98 = 1 := by kernel_rfl
theorem ag98 : isAgg Tryz.prog 98 = false := by kernel_rfl
theorem ze98 : zero Tryz.prog 98 = some [V.nilfn] := by kernel_rfl
theorem sz99 : szOf Tryz.prog 99 = 1 := by kernel_rfl
theorem ag99 : isAgg Tryz.prog 99 = false := by kernel_rfl
theorem ze99 : zero Tryz.prog 99 = some [V.nilfn] := by kernel_rfl
theorem sz100 : szOf Tryz.prog 100 = 1 := by kernel_rfl
theorem ag100 : isAgg Tryz.prog 100 = false := by kernel_rfl
theorem ze100 : zero Tryz.prog 100 = some [V.nilfn] := by kernel_rfl
theorem sz101 : szOf Tryz.prog 101 = 1 := by kernel_rfl
theorem ag101 : isAgg Tryz.prog 101 = false := by kernel_rfl
theorem ze101 : zero Tryz.prog 101 = some [V.nilfn] := by kernel_rfl
theorem sz102 : szOf Tryz.prog 102 = 1 := by kernel_rfl
theorem ag102 : isAgg Tryz.prog 102 = false := by kernel_rfl
theorem ze102 : zero Tryz.prog 102 = some [V.nilfn] := by kernel_rfl
theorem sz103 : szOf Tryz.prog 103 = 1 := by kernel_rfl
theorem ag103 : isAgg Tryz.prog 103 = false := by kernel_rfl
theorem ze103 : zero Tryz.prog 103 = some [V.nilfn] := by kernel_rfl
theorem sz104 : szOf Tryz.prog 104 = 1 := by kernel_rfl
theorem ag104 : isAgg Tryz.prog 104 = false := by kernel_rfl
theorem ze104 : zero Tryz.prog 104 = some [V.nilfn] := by kernel_rfl
theorem u105 : Tryz.prog.underlying 105 = some (.int .u64) := by kernel_rfl
theorem sz105 : szOf Tryz.prog 105 = 1 := by kernel_rfl
theorem ag105 : isAgg Tryz.prog 105 = false := by kernel_rfl
theorem ze105 : zero Tryz.prog 105 = some [V.int .u64 0] := by kernel_rfl
theorem sz106 : szOf Tryz.prog 106 = 2 := by kernel_rfl
theorem ag106 : isAgg Tryz.prog 106 = true := by kernel_rfl
theorem ze106 : zero Tryz.prog 106 = some [V.int .i64 0, V.int .u64 0] := by kernel_rfl
theorem la106 : layOf Tryz.prog 106 = some [(3, 0, 1), (105, 1, 1)] := by kernel_rfl
theorem bd106 (H : Hint) (d : Nat) (ty : TypeId) (ps : Array (Nat × Operand)) (s : St) : evV Tryz.prog H d ty (.build 106 ps) s = aggO (buildL Tryz.prog [(3, 0, 1), (105, 1, 1)] s [V.int .i64 0, V.int .u64 0] ps.toList) := build_lay la106 ze106
theorem xb106 (H : Hint) (d : Nat) (ty : TypeId) (ps : Array (Nat × Operand)) (pos : String) (aft : Array Edge) (g : Option (Nat × Bool)) : isX Tryz.prog H { dst := some d, op := .build 106 ps, type := ty, pos := pos, after := aft, guard := g } = !memN d H.arrs := by kernel_rfl
theorem fa106_0 (v : V) : vFieldAddr Tryz.prog 106 0 v = faddr 0 v := by kernel_rfl
theorem fg106_0 (s : St) (v : V) : vField Tryz.prog s 106 0 v = fget 0 1 false v := by kernel_rfl
theorem fa106_1 (v : V) : vFieldAddr Tryz.prog 106 1 v = faddr 1 v := by kernel_rfl
theorem fg106_1 (s : St) (v : V) : vField Tryz.prog s 106 1 v = fget 1 1 false v := by kernel_rfl
theorem ev106 (x0 y0 : Int) (x1 y1 : Int) : eqV Tryz.prog 106 (.agg [V.int .i64 x0, V.int .u64 x1]) (.agg [V.int .i64 y0, V.int .u64 y1]) = some ((x0 == y0) && ((x1 == y1) && true)) := by kernel_rfl
theorem eg106 : Tryz.prog.eqGuardType Tryz.prog.depth 106 = false := by kernel_rfl
theorem sz107 : szOf Tryz.prog 107 = 2 := by kernel_rfl
theorem ag107 : isAgg Tryz.prog 107 = true := by kernel_rfl
theorem ze107 : zero Tryz.prog 107 = some [V.int .i64 0, V.int .u64 0] := by kernel_rfl
theorem la107 : layOf Tryz.prog 107 = some [(3, 0, 1), (105, 1, 1)] := by kernel_rfl
theorem bd107 (H : Hint) (d : Nat) (ty : TypeId) (ps : Array (Nat × Operand)) (s : St) : evV Tryz.prog H d ty (.build 107 ps) s = aggO (buildL Tryz.prog [(3, 0, 1), (105, 1, 1)] s [V.int .i64 0, V.int .u64 0] ps.toList) := build_lay la107 ze107
theorem xb107 (H : Hint) (d : Nat) (ty : TypeId) (ps : Array (Nat × Operand)) (pos : String) (aft : Array Edge) (g : Option (Nat × Bool)) : isX Tryz.prog H { dst := some d, op := .build 107 ps, type := ty, pos := pos, after := aft, guard := g } = !memN d H.arrs := by kernel_rfl
theorem fa107_0 (v : V) : vFieldAddr Tryz.prog 107 0 v = faddr 0 v := by kernel_rfl
theorem fg107_0 (s : St) (v : V) : vField Tryz.prog s 107 0 v = fget 0 1 false v := by kernel_rfl
theorem fa107_1 (v : V) : vFieldAddr Tryz.prog 107 1 v = faddr 1 v := by kernel_rfl
theorem fg107_1 (s : St) (v : V) : vField Tryz.prog s 107 1 v = fget 1 1 false v := by kernel_rfl
theorem ev107 (x0 y0 : Int) (x1 y1 : Int) : eqV Tryz.prog 107 (.agg [V.int .i64 x0, V.int .u64 x1]) (.agg [V.int .i64 y0, V.int .u64 y1]) = some ((x0 == y0) && ((x1 == y1) && true)) := by kernel_rfl
theorem eg107 : Tryz.prog.eqGuardType Tryz.prog.depth 107 = false := by kernel_rfl
theorem sz108 : szOf Tryz.prog 108 = 1 := by kernel_rfl
theorem ag108 : isAgg Tryz.prog 108 = false := by kernel_rfl
theorem ze108 : zero Tryz.prog 108 = some [V.nilfn] := by kernel_rfl
theorem u109 : Tryz.prog.underlying 109 = some (.slice 107) := by kernel_rfl
theorem sz109 : szOf Tryz.prog 109 = 1 := by kernel_rfl
theorem ag109 : isAgg Tryz.prog 109 = false := by kernel_rfl
theorem eo109 : elemOf Tryz.prog 109 = 107 := by kernel_rfl
theorem es109 : elemSz Tryz.prog 109 = 2 := by kernel_rfl
theorem gr109 : growB Tryz.prog 109 = true := by kernel_rfl
theorem df109 : dflt Tryz.prog 109 = V.agg [V.int .i64 0, V.int .u64 0] := by kernel_rfl
theorem ze109 : zero Tryz.prog 109 = some [V.slc true 2 []] := by kernel_rfl
theorem sz111 : szOf Tryz.prog 111 = 1 := by kernel_rfl
theorem ag111 : isAgg Tryz.prog 111 = false := by kernel_rfl
theorem ze111 : zero Tryz.prog 111 = some [V.nilfn] := by kernel_rfl
theorem sz112 : szOf Tryz.prog 112 = 1 := by kernel_rfl
theorem ag112 : isAgg Tryz.prog 112 = false := by kernel_rfl
theorem ze112 : zero Tryz.prog 112 = some [V.nilfn] := by kernel_rfl
theorem sz113 : szOf Tryz.prog 113 = 1 := by kernel_rfl
theorem ag113 : isAgg Tryz.prog 113 = false := by kernel_rfl
theorem ze113 : zero Tryz.prog 113 = some [V.nilfn] := by kernel_rfl
theorem sz114 : szOf Tryz.prog 114 = 1 := by kernel_rfl
theorem ag114 : isAgg Tryz.prog 114 = false := by kernel_rfl
theorem ze114 : zero Tryz.prog 114 = some [V.nilfn] := by kernel_rfl
theorem sz115 : szOf Tryz.prog 115 = 1 := by kernel_rfl
theorem ag115 : isAgg Tryz.prog 115 = false := by kernel_rfl
theorem ze115 : zero Tryz.prog 115 = some [V.nilfn] := by kernel_rfl
theorem u116 : Tryz.prog.underlying 116 = some (.slice 119) := by kernel_rfl
theorem sz116 : szOf Tryz.prog 116 = 1 := by kernel_rfl
theorem ag116 : isAgg Tryz.prog 116 = false := by kernel_rfl
theorem eo116 : elemOf Tryz.prog 116 = 119 := by kernel_rfl
theorem es116 : elemSz Tryz.prog 116 = 2 := by kernel_rfl
theorem gr116 : growB Tryz.prog 116 = true := by kernel_rfl
theorem df116 : dflt Tryz.prog 116 = V.agg [V.int .i64 0, V.int .i64 0] := by kernel_rfl
theorem ze116 : zero Tryz.prog 116 = some [V.slc true 2 []] := by kernel_rfl
theorem sz118 : szOf Tryz.prog 118 = 1 := by kernel_rfl
theorem ag118 : isAgg Tryz.prog 118 = false := by kernel_rfl
theorem ze118 : zero Tryz.prog 118 = some [V.nilfn] := by kernel_rfl
theorem xa119 (H : Hint) (d : Nat) (ty : TypeId) (ps : Array (Nat × Operand)) (pos : String) (aft : Array Edge) (g : Option (Nat × Bool)) : isX Tryz.prog H { dst := some d, op := .build 119 ps, type := ty, pos := pos, after := aft, guard := g } = memN d H.arrs := by kernel_rfl
theorem u119 : Tryz.prog.underlying 119 = some (.array 2 3) := by kernel_rfl
theorem sz119 : szOf Tryz.prog 119 = 2 := by kernel_rfl
theorem ag119 : isAgg Tryz.prog 119 = true := by kernel_rfl
theorem eo119 : elemOf Tryz.prog 119 = 3 := by kernel_rfl
theorem es119 : elemSz Tryz.prog 119 = 1 := by kernel_rfl
theorem ze119 : zero Tryz.prog 119 = some [V.int .i64 0, V.int .i64 0] := by kernel_rfl
theorem sz120 : szOf Tryz.prog 120 = 1 := by kernel_rfl
theorem ag120 : isAgg Tryz.prog 120 = false := by kernel_rfl
theorem ze120 : zero Tryz.prog 120 = some [V.nilfn] := by kernel_rfl
theorem sz121 : szOf Tryz.prog 121 = 1 := by kernel_rfl
theorem ag121 : isAgg Tryz.prog 121 = false := by kernel_rfl
theorem ze121 : zero Tryz.prog 121 = some [V.nilfn] := by kernel_rfl
theorem sz122 : szOf Tryz.prog 122 = 1 := by kernel_rfl
theorem ag122 : isAgg Tryz.prog 122 = false := by kernel_rfl
theorem ze122 : zero Tryz.prog 122 = some [V.nilfn] := by kernel_rfl
theorem u123 : Tryz.prog.underlying 123 = some (.map 3 3) := by kernel_rfl
theorem sz123 : szOf Tryz.prog 123 = 1 := by kernel_rfl
theorem ag123 : isAgg Tryz.prog 123 = false := by kernel_rfl
theorem u125 : Tryz.prog.underlying 125 = some (.map 126 3) := by kernel_rfl
theorem sz125 : szOf Tryz.prog 125 = 1 := by kernel_rfl
theorem ag125 : isAgg Tryz.prog 125 = false := by kernel_rfl
theorem xa126 (H : Hint) (d : Nat) (ty : TypeId) (ps : Array (Nat × Operand)) (pos : String) (aft : Array Edge) (g : Option (Nat × Bool)) : isX Tryz.prog H { dst := some d, op := .build 126 ps, type := ty, pos := pos, after := aft, guard := g } = memN d H.arrs := by kernel_rfl
theorem u126 : Tryz.prog.underlying 126 = some (.array 4 3) := by kernel_rfl
theorem sz126 : szOf Tryz.prog 126 = 4 := by kernel_rfl
theorem ag126 : isAgg Tryz.prog 126 = true := by kernel_rfl
theorem eo126 : elemOf Tryz.prog 126 = 3 := by kernel_rfl
theorem es126 : elemSz Tryz.prog 126 = 1 := by kernel_rfl
theorem ze126 : zero Tryz.prog 126 = some [V.int .i64 0, V.int .i64 0, V.int .i64 0, V.int .i64 0] := by kernel_rfl
theorem sz127 : szOf Tryz.prog 127 = 1 := by kernel_rfl
theorem ag127 : isAgg Tryz.prog 127 = false := by kernel_rfl
theorem ze127 : zero Tryz.prog 127 = some [V.nilfn] := by kernel_rfl
theorem sz128 : szOf Tryz.prog 128 = 1 := by kernel_rfl
theorem ag128 : isAgg Tryz.prog 128 = false := by kernel_rfl
theorem ze128 : zero Tryz.prog 128 = some [V.nilfn] := by kernel_rfl
theorem sz129 : szOf Tryz.prog 129 = 1 := by kernel_rfl
theorem ag129 : isAgg Tryz.prog 129 = false := by kernel_rfl
theorem ze129 : zero Tryz.prog 129 = some [V.nilfn] := by kernel_rfl
theorem sz130 : szOf Tryz.prog 130 = 1 := by kernel_rfl
theorem ag130 : isAgg Tryz.prog 130 = false := by kernel_rfl
theorem ze130 : zero Tryz.prog 130 = some [V.nilfn] := by kernel_rfl
theorem u131 : Tryz.prog.underlying 131 = some (.map 107 3) := by kernel_rfl
theorem sz131 : szOf Tryz.prog 131 = 1 := by kernel_rfl
theorem ag131 : isAgg Tryz.prog 131 = false := by kernel_rfl
theorem u132 : Tryz.prog.underlying 132 = some (.map 119 3) := by kernel_rfl
theorem sz132 : szOf Tryz.prog 132 = 1 := by kernel_rfl
theorem ag132 : isAgg Tryz.prog 132 = false := by kernel_rfl
theorem sz133 : szOf Tryz.prog 133 = 1 := by kernel_rfl
theorem ag133 : isAgg Tryz.prog 133 = false := by kernel_rfl
theorem ze133 : zero Tryz.prog 133 = some [V.nilfn] := by kernel_rfl
theorem sz134 : szOf Tryz.prog 134 = 1 := by kernel_rfl
theorem ag134 : isAgg Tryz.prog 134 = false := by kernel_rfl
theorem ze134 : zero Tryz.prog 134 = some [V.nilfn] := by kernel_rfl
theorem sz135 : szOf Tryz.prog 135 = 1 := by kernel_rfl
theorem ag135 : isAgg Tryz.prog 135 = false := by kernel_rfl
theorem ze135 : zero Tryz.prog 135 = some [V.nilfn] := by kernel_rfl
theorem sz136 : szOf Tryz.prog 136 = 1 := by kernel_rfl
theorem ag136 : isAgg Tryz.prog 136 = false := by kernel_rfl
theorem ze136 : zero Tryz.prog 136 = some [V.nilfn] := by kernel_rfl
theorem sz137 : szOf Tryz.prog 137 = 1 := by kernel_rfl
theorem ag137 : isAgg Tryz.prog 137 = false := by kernel_rfl
theorem ze137 : zero Tryz.prog 137 = some [V.nilfn] := by kernel_rfl
theorem sz138 : szOf Tryz.prog 138 = 4 := by kernel_rfl
theorem ag138 : isAgg Tryz.prog 138 = true := by kernel_rfl
theorem ze138 : zero Tryz.prog 138 = some [V.nilp, V.nilp, V.nilp, V.str ⟨#[]⟩] := by kernel_rfl
theorem la138 : layOf Tryz.prog 138 = some [(17, 0, 1), (17, 1, 1), (17, 2, 1), (9, 3, 1)] := by kernel_rfl
theorem bd138 (H : Hint) (d : Nat) (ty : TypeId) (ps : Array (Nat × Operand)) (s : St) : evV Tryz.prog H d ty (.build 138 ps) s = aggO (buildL Tryz.prog [(17, 0, 1), (17, 1, 1), (17, 2, 1), (9, 3, 1)] s [V.nilp, V.nilp, V.nilp, V.str ⟨#[]⟩] ps.toList) := build_lay la138 ze138
theorem xb138 (H : Hint) (d : Nat) (ty : TypeId) (ps : Array (Nat × Operand)) (pos : String) (aft : Array Edge) (g : Option (Nat × Bool)) : isX Tryz.prog H { dst := some d, op := .build 138 ps, type := ty, pos := pos, after := aft, guard := g } = !memN d H.arrs := by kernel_rfl
theorem fa138_0 (v : V) : vFieldAddr Tryz.prog 138 0 v = faddr 0 v := by kernel_rfl
theorem fg138_0 (s : St) (v : V) : vField Tryz.prog s 138 0 v = fget 0 1 false v := by kernel_rfl
theorem fa138_1 (v : V) : vFieldAddr Tryz.prog 138 1 v = faddr 1 v := by kernel_rfl
theorem fg138_1 (s : St) (v : V) : vField Tryz.prog s 138 1 v = fget 1 1 false v := by kernel_rfl
theorem fa138_2 (v : V) : vFieldAddr Tryz.prog 138 2 v = faddr 2 v := by kernel_rfl
theorem fg138_2 (s : St) (v : V) : vField Tryz.prog s 138 2 v = fget 2 1 false v := by kernel_rfl
theorem fa138_3 (v : V) : vFieldAddr Tryz.prog 138 3 v = faddr 3 v := by kernel_rfl
theorem fg138_3 (s : St) (v : V) : vField Tryz.prog s 138 3 v = fget 3 1 false v := by kernel_rfl
theorem sz139 : szOf Tryz.prog 139 = 4 := by kernel_rfl
theorem ag139 : isAgg Tryz.prog 139 = true := by kernel_rfl
theorem ze139 : zero Tryz.prog 139 = some [V.nilp, V.nilp, V.nilp, V.str ⟨#[]⟩] := by kernel_rfl
theorem la139 : layOf Tryz.prog 139 = some [(17, 0, 1), (17, 1, 1), (17, 2, 1), (9, 3, 1)] := by kernel_rfl
theorem bd139 (H : Hint) (d : Nat) (ty : TypeId) (ps : Array (Nat × Operand)) (s : St) : evV Tryz.prog H d ty (.build 139 ps) s = aggO (buildL Tryz.prog [(17, 0, 1), (17, 1, 1), (17, 2, 1), (9, 3, 1)] s [V.nilp, V.nilp, V.nilp, V.str ⟨#[]⟩] ps.toList) := build_lay la139 ze139
theorem xb139 (H : Hint) (d : Nat) (ty : TypeId) (ps : Array (Nat × Operand)) (pos : String) (aft : Array Edge) (g : Option (Nat × Bool)) : isX Tryz.prog H { dst := some d, op := .build 139 ps, type := ty, pos := pos, after := aft, guard := g } = !memN d H.arrs := by kernel_rfl
theorem fa139_0 (v : V) : vFieldAddr Tryz.prog 139 0 v = faddr 0 v := by kernel_rfl
theorem fg139_0 (s : St) (v : V) : vField Tryz.prog s 139 0 v = fget 0 1 false v := by kernel_rfl
theorem fa139_1 (v : V) : vFieldAddr Tryz.prog 139 1 v = faddr 1 v := by kernel_rfl
theorem fg139_1 (s : St) (v : V) : vField Tryz.prog s 139 1 v = fget 1 1 false v := by kernel_rfl
theorem fa139_2 (v : V) : vFieldAddr Tryz.prog 139 2 v = faddr 2 v := by kernel_rfl
theorem fg139_2 (s : St) (v : V) : vField Tryz.prog s 139 2 v = fget 2 1 false v := by kernel_rfl
theorem fa139_3 (v : V) : vFieldAddr Tryz.prog 139 3 v = faddr 3 v := by kernel_rfl
theorem fg139_3 (s : St) (v : V) : vField Tryz.prog s 139 3 v = fget 3 1 false v := by kernel_rfl
theorem xa140 (H : Hint) (d : Nat) (ty : TypeId) (ps : Array (Nat × Operand)) (pos : String) (aft : Array Edge) (g : Option (Nat × Bool)) : isX Tryz.prog H { dst := some d, op := .build 140 ps, type := ty, pos := pos, after := aft, guard := g } = memN d H.arrs := by kernel_rfl
theorem u140 : Tryz.prog.underlying 140 = some (.array 0 16) := by kernel_rfl
theorem sz140 : szOf Tryz.prog 140 = 0 := by kernel_rfl
theorem ag140 : isAgg Tryz.prog 140 = true := by kernel_rfl
theorem eo140 : elemOf Tryz.prog 140 = 16 := by kernel_rfl
theorem es140 : elemSz Tryz.prog 140 = 1 := by kernel_rfl
theorem ze140 : zero Tryz.prog 140 = some [] := by kernel_rfl
theorem sz141 : szOf Tryz.prog 141 = 0 := by kernel_rfl
theorem ag141 : isAgg Tryz.prog 141 = true := by kernel_rfl
theorem ze141 : zero Tryz.prog 141 = some [] := by kernel_rfl
theorem sz142 : szOf Tryz.prog 142 = 0 := by kernel_rfl
theorem ag142 : isAgg Tryz.prog 142 = true := by kernel_rfl
theorem ze142 : zero Tryz.prog 142 = some [] := by kernel_rfl
theorem sz143 : szOf Tryz.prog 143 = 1 := by kernel_rfl
theorem ag143 : isAgg Tryz.prog 143 = false := by kernel_rfl
theorem ze143 : zero Tryz.prog 143 = some [V.nilfn] := by kernel_rfl
theorem u144 : Tryz.prog.underlying 144 = some (.int .u32) := by kernel_rfl
theorem sz144 : szOf Tryz.prog 144 = 1 := by kernel_rfl
theorem ag144 : isAgg Tryz.prog 144 = false := by kernel_rfl
theorem ze144 : zero Tryz.prog 144 = some [V.int .u32 0] := by kernel_rfl
theorem u145 : Tryz.prog.underlying 145 = some (.int .u8) := by kernel_rfl
theorem sz145 : szOf Tryz.prog 145 = 1 := by kernel_rfl
theorem ag145 : isAgg Tryz.prog 145 = false := by kernel_rfl
theorem ze145 : zero Tryz.prog 145 = some [V.int .u8 0] := by kernel_rfl
theorem u146 : Tryz.prog.underlying 146 = some (.int .u8) := by kernel_rfl
theorem sz146 : szOf Tryz.prog 146 = 1 := by kernel_rfl
theorem ag146 : isAgg Tryz.prog 146 = false := by kernel_rfl
theorem ze146 : zero Tryz.prog 146 = some [V.int .u8 0] := by kernel_rfl
theorem sz147 : szOf Tryz.prog 147 = 1 := by kernel_rfl
theorem ag147 : isAgg Tryz.prog 147 = false := by kernel_rfl
theorem ze147 : zero Tryz.prog 147 = some [V.nilfn] := by kernel_rfl
theorem u148 : Tryz.prog.underlying 148 = some (.pointer 5) := by kernel_rfl
theorem sz148 : szOf Tryz.prog 148 = 1 := by kernel_rfl
theorem ag148 : isAgg Tryz.prog 148 = false := by kernel_rfl
theorem ze148 : zero Tryz.prog 148 = some [V.nilp] := by kernel_rfl
theorem u149 : Tryz.prog.underlying 149 = some (.int .i32) := by kernel_rfl
theorem sz149 : szOf Tryz.prog 149 = 1 := by kernel_rfl
theorem ag149 : isAgg Tryz.prog 149 = false := by kernel_rfl
theorem ze149 : zero Tryz.prog 149 = some [V.int .i32 0] := by kernel_rfl
theorem u150 : Tryz.prog.underlying 150 = some (.int .i32) := by kernel_rfl
theorem sz150 : szOf Tryz.prog 150 = 1 := by kernel_rfl
theorem ag150 : isAgg Tryz.prog 150 = false := by kernel_rfl
theorem ze150 : zero Tryz.prog 150 = some [V.int .i32 0] := by kernel_rfl
theorem sz151 : szOf Tryz.prog 151 = 11 := by kernel_rfl
theorem ag151 : isAgg Tryz.prog 151 = true := by kernel_rfl
theorem ze151 : zero Tryz.prog 151 = some [V.int .u64 0, V.int .u64 0, V.int .u32 0, V.int .u8 0, V.int .u8 0, V.int .u8 0, V.int .u8 0, V.nilfn, V.nilp, V.int .i32 0, V.int .i32 0] := by kernel_rfl
theorem la151 : layOf Tryz.prog 151 = some [(12, 0, 1), (12, 1, 1), (144, 2, 1), (145, 3, 1), (5, 4, 1), (5, 5, 1), (146, 6, 1), (147, 7, 1), (148, 8, 1), (149, 9, 1), (150, 10, 1)] := by kernel_rfl
theorem bd151 (H : Hint) (d : Nat) (ty : TypeId) (ps : Array (Nat × Operand)) (s : St) : evV Tryz.prog H d ty (.build 151 ps) s = aggO (buildL Tryz.prog [(12, 0, 1), (12, 1, 1), (144, 2, 1), (145, 3, 1), (5, 4, 1), (5, 5, 1), (146, 6, 1), (147, 7, 1), (148, 8, 1), (149, 9, 1), (150, 10, 1)] s [V.int .u64 0, V.int .u64 0, V.int .u32 0, V.int .u8 0, V.int .u8 0, V.int .u8 0, V.int .u8 0, V.nilfn, V.nilp, V.int .i32 0, V.int .i32 0] ps.toList) := build_lay la151 ze151
theorem xb151 (H : Hint) (d : Nat) (ty : TypeId) (ps : Array (Nat × Operand)) (pos : String) (aft : Array Edge) (g : Option (Nat × Bool)) : isX Tryz.prog H { dst := some d, op := .build 151 ps, type := ty, pos := pos, after := aft, guard := g } = !memN d H.arrs := by kernel_rfl
theorem fa151_0 (v : V) : vFieldAddr Tryz.prog 151 0 v = faddr 0 v := by kernel_rfl
theorem fg151_0 (s : St) (v : V) : vField Tryz.prog s 151 0 v = fget 0 1 false v := by kernel_rfl
theorem fa151_1 (v : V) : vFieldAddr Tryz.prog 151 1 v = faddr 1 v := by kernel_rfl
theorem fg151_1 (s : St) (v : V) : vField Tryz.prog s 151 1 v = fget 1 1 false v := by kernel_rfl
theorem fa151_2 (v : V) : vFieldAddr Tryz.prog 151 2 v = faddr 2 v := by kernel_rfl
theorem fg151_2 (s : St) (v : V) : vField Tryz.prog s 151 2 v = fget 2 1 false v := by kernel_rfl
theorem fa151_3 (v : V) : vFieldAddr Tryz.prog 151 3 v = faddr 3 v := by kernel_rfl
theorem fg151_3 (s : St) (v : V) : vField Tryz.prog s 151 3 v = fget 3 1 false v := by kernel_rfl
theorem fa151_4 (v : V) : vFieldAddr Tryz.prog 151 4 v = faddr 4 v := by kernel_rfl
theorem fg151_4 (s : St) (v : V) : vField Tryz.prog s 151 4 v = fget 4 1 false v := by kernel_rfl
theorem fa151_5 (v : V) : vFieldAddr Tryz.prog 151 5 v = faddr 5 v := by kernel_rfl
theorem fg151_5 (s : St) (v : V) : vField Tryz.prog s 151 5 v = fget 5 1 false v := by kernel_rfl
theorem fa151_6 (v : V) : vFieldAddr Tryz.prog 151 6 v = faddr 6 v := by kernel_rfl
theorem fg151_6 (s : St) (v : V) : vField Tryz.prog s 151 6 v = fget 6 1 false v := by kernel_rfl
theorem fa151_7 (v : V) : vFieldAddr Tryz.prog 151 7 v = faddr 7 v := by kernel_rfl
theorem fg151_7 (s : St) (v : V) : vField Tryz.prog s 151 7 v = fget 7 1 false v := by kernel_rfl
theorem fa151_8 (v : V) : vFieldAddr Tryz.prog 151 8 v = faddr 8 v := by kernel_rfl
theorem fg151_8 (s : St) (v : V) : vField Tryz.prog s 151 8 v = fget 8 1 false v := by kernel_rfl
theorem fa151_9 (v : V) : vFieldAddr Tryz.prog 151 9 v = faddr 9 v := by kernel_rfl
theorem fg151_9 (s : St) (v : V) : vField Tryz.prog s 151 9 v = fget 9 1 false v := by kernel_rfl
theorem fa151_10 (v : V) : vFieldAddr Tryz.prog 151 10 v = faddr 10 v := by kernel_rfl
theorem fg151_10 (s : St) (v : V) : vField Tryz.prog s 151 10 v = fget 10 1 false v := by kernel_rfl
theorem sz152 : szOf Tryz.prog 152 = 11 := by kernel_rfl
theorem ag152 : isAgg Tryz.prog 152 = true := by kernel_rfl
theorem ze152 : zero Tryz.prog 152 = some [V.int .u64 0, V.int .u64 0, V.int .u32 0, V.int .u8 0, V.int .u8 0, V.int .u8 0, V.int .u8 0, V.nilfn, V.nilp, V.int .i32 0, V.int .i32 0] := by kernel_rfl
theorem la152 : layOf Tryz.prog 152 = some [(12, 0, 1), (12, 1, 1), (144, 2, 1), (145, 3, 1), (5, 4, 1), (5, 5, 1), (146, 6, 1), (147, 7, 1), (148, 8, 1), (149, 9, 1), (150, 10, 1)] := by kernel_rfl
theorem bd152 (H : Hint) (d : Nat) (ty : TypeId) (ps : Array (Nat × Operand)) (s : St) : evV Tryz.prog H d ty (.build 152 ps) s = aggO (buildL Tryz.prog [(12, 0, 1), (12, 1, 1), (144, 2, 1), (145, 3, 1), (5, 4, 1), (5, 5, 1), (146, 6, 1), (147, 7, 1), (148, 8, 1), (149, 9, 1), (150, 10, 1)] s [V.int .u64 0, V.int .u64 0, V.int .u32 0, V.int .u8 0, V.int .u8 0, V.int .u8 0, V.int .u8 0, V.nilfn, V.nilp, V.int .i32 0, V.int .i32 0] ps.toList) := build_lay la152 ze152
theorem xb152 (H : Hint) (d : Nat) (ty : TypeId) (ps : Array (Nat × Operand)) (pos : String) (aft : Array Edge) (g : Option (Nat × Bool)) : isX Tryz.prog H { dst := some d, op := .build 152 ps, type := ty, pos := pos, after := aft, guard := g } = !memN d H.arrs := by kernel_rfl
theorem fa152_0 (v : V) : vFieldAddr Tryz.prog 152 0 v = faddr 0 v := by kernel_rfl
theorem fg152_0 (s : St) (v : V) : vField Tryz.prog s 152 0 v = fget 0 1 false v := by kernel_rfl
theorem fa152_1 (v : V) : vFieldAddr Tryz.prog 152 1 v = faddr 1 v := by kernel_rfl
theorem fg152_1 (s : St) (v : V) : vField Tryz.prog s 152 1 v = fget 1 1 false v := by kernel_rfl
theorem fa152_2 (v : V) : vFieldAddr Tryz.prog 152 2 v = faddr 2 v := by kernel_rfl
theorem fg152_2 (s : St) (v : V) : vField Tryz.prog s 152 2 v = fget 2 1 false v := by kernel_rfl
theorem fa152_3 (v : V) : vFieldAddr Tryz.prog 152 3 v = faddr 3 v := by kernel_rfl
theorem fg152_3 (s : St) (v : V) : vField Tryz.prog s 152 3 v = fget 3 1 false v := by kernel_rfl
theorem fa152_4 (v : V) : vFieldAddr Tryz.prog 152 4 v = faddr 4 v := by kernel_rfl
theorem fg152_4 (s : St) (v : V) : vField Tryz.prog s 152 4 v = fget 4 1 false v := by kernel_rfl
theorem fa152_5 (v : V) : vFieldAddr Tryz.prog 152 5 v = faddr 5 v := by kernel_rfl
theorem fg152_5 (s : St) (v : V) : vField Tryz.prog s 152 5 v = fget 5 1 false v := by kernel_rfl
theorem fa152_6 (v : V) : vFieldAddr Tryz.prog 152 6 v = faddr 6 v := by kernel_rfl
theorem fg152_6 (s : St) (v : V) : vField Tryz.prog s 152 6 v = fget 6 1 false v := by kernel_rfl
theorem fa152_7 (v : V) : vFieldAddr Tryz.prog 152 7 v = faddr 7 v := by kernel_rfl
theorem fg152_7 (s : St) (v : V) : vField Tryz.prog s 152 7 v = fget 7 1 false v := by kernel_rfl
theorem fa152_8 (v : V) : vFieldAddr Tryz.prog 152 8 v = faddr 8 v := by kernel_rfl
theorem fg152_8 (s : St) (v : V) : vField Tryz.prog s 152 8 v = fget 8 1 false v := by kernel_rfl
theorem fa152_9 (v : V) : vFieldAddr Tryz.prog 152 9 v = faddr 9 v := by kernel_rfl
theorem fg152_9 (s : St) (v : V) : vField Tryz.prog s 152 9 v = fget 9 1 false v := by kernel_rfl
theorem fa152_10 (v : V) : vFieldAddr Tryz.prog 152 10 v = faddr 10 v := by kernel_rfl
theorem fg152_10 (s : St) (v : V) : vField Tryz.prog s 152 10 v = fget 10 1 false v := by kernel_rfl
theorem ev3 (x y : Int) : eqV Tryz.prog 3 (.int .i64 x) (.int .i64 y) = some (x == y) := by kernel_rfl
theorem ev119 (x0 y0 x1 y1 : Int) : eqV Tryz.prog 119 (.agg [V.int .i64 x0, V.int .i64 x1]) (.agg [V.int .i64 y0, V.int .i64 y1]) = some ((x0 == y0) && ((x1 == y1) && true)) := by kernel_rfl
theorem ev126 (x0 y0 x1 y1 x2 y2 x3 y3 : Int) : eqV Tryz.prog 126 (.agg [V.int .i64 x0, V.int .i64 x1, V.int .i64 x2, V.int .i64 x3]) (.agg [V.int .i64 y0, V.int .i64 y1, V.int .i64 y2, V.int .i64 y3]) = some ((x0 == y0) && ((x1 == y1) && ((x2 == y2) && ((x3 == y3) && true)))) := by kernel_rfl
theorem by3 : (Tryz.prog.bytesOf 3) = 8 := by kernel_rfl
theorem by4 : (Tryz.prog.bytesOf 4) = 1 := by kernel_rfl
theorem by9 : (Tryz.prog.bytesOf 9) = 16 := by kernel_rfl
theorem by40 : (Tryz.prog.bytesOf 40) = 48 := by kernel_rfl
theorem by42 : (Tryz.prog.bytesOf 42) = 120 := by kernel_rfl
theorem by49 : (Tryz.prog.bytesOf 49) = 48 := by kernel_rfl
theorem by51 : (Tryz.prog.bytesOf 51) = 120 := by kernel_rfl
theorem by66 : (Tryz.prog.bytesOf 66) = 48 := by kernel_rfl
theorem by91 : (Tryz.prog.bytesOf 91) = 24 := by kernel_rfl
theorem by96 : (Tryz.prog.bytesOf 96) = 40 := by kernel_rfl
theorem by107 : (Tryz.prog.bytesOf 107) = 16 := by kernel_rfl
theorem by119 : (Tryz.prog.bytesOf 119) = 16 := by kernel_rfl
attribute [go_sem] sz1 ag1 ze1 u2 sz2 ag2 ze2 u3 sz3 ag3 ze3 u4 sz4 ag4 ze4 ev4 u5 sz5 ag5 ze5 u6 sz6 ag6 ze6 sz7 ag7 ze7 fa7_0 fg7_0 fa7_1 fg7_1 fa7_2 fg7_2 fa7_3 fg7_3 sz8 ag8 ze8 fa8_0 fg8_0 fa8_1 fg8_1 fa8_2 fg8_2 fa8_3 fg8_3 u9 sz9 ag9 ze9 u10 sz10 ag10 ze10 u11 sz11 ag11 ze11 u12 sz12 ag12 ze12 sz13 ag13 ze13 fa13_0 fg13_0 fa13_1 fg13_1 sz14 ag14 ze14 fa14_0 fg14_0 fa14_1 fg14_1 u15 sz15 ag15 ze15 u16 sz16 ag16 ze16 u17 sz17 ag17 ze17 sz18 ag18 ze18 fa18_0 fg18_0 sz19 ag19 ze19 fa19_0 fg19_0 u21 sz21 ag21 ze21 u22 sz22 ag22 eo22 es22 gr22 df22 ze22 sz23 ag23 ze23 fa23_0 fg23_0 sz24 ag24 ze24 fa24_0 fg24_0 sz25 ag25 ze25 sz26 ag26 ze26 u27 sz27 ag27 eo27 es27 gr27 df27 ze27 sz28 ag28 ze28 fa28_0 fg28_0 sz29 ag29 ze29 fa29_0 fg29_0 sz30 ag30 ze30 sz31 ag31 ze31 sz32 ag32 ze32 sz33 ag33 ze33 sz34 ag34 ze34 sz35 ag35 ze35 sz36 ag36 ze36 fa36_0 fg36_0 fa36_1 fg36_1 fa36_2 fg36_2 sz37 ag37 ze37 fa37_0 fg37_0 fa37_1 fg37_1 fa37_2 fg37_2 ev37 eg37 u38 sz38 ag38 eo38 es38 gr38 df38 ze38 sz39 ag39 ze39 fa39_0 fg39_0 fa39_1 fg39_1 fa39_2 fg39_2 sz40 ag40 ze40 fa40_0 fg40_0 fa40_1 fg40_1 fa40_2 fg40_2 sz41 ag41 ze41 fa41_0 fg41_0 fa41_1 fg41_1 fa41_2 fg41_2 fa41_3 fg41_3 sz42 ag42 ze42 fa42_0 fg42_0 fa42_1 fg42_1 fa42_2 fg42_2 fa42_3 fg42_3 sz43 ag43 ze43 sz44 ag44 ze44 sz45 ag45 ze45 sz46 ag46 ze46 fa46_0 fg46_0 fa46_1 fg46_1 fa46_2 fg46_2 ev46 eg46 u47 sz47 ag47 eo47 es47 gr47 df47 ze47 sz48 ag48 ze48 fa48_0 fg48_0 fa48_1 fg48_1 fa48_2 fg48_2 sz49 ag49 ze49 fa49_0 fg49_0 fa49_1 fg49_1 fa49_2 fg49_2 sz50 ag50 ze50 fa50_0 fg50_0 fa50_1 fg50_1 fa50_2 fg50_2 fa50_3 fg50_3 sz51 ag51 ze51 fa51_0 fg51_0 fa51_1 fg51_1 fa51_2 fg51_2 fa51_3 fg51_3 sz52 ag52 ze52 sz53 ag53 ze53 sz54 ag54 ze54 sz55 ag55 ze55 sz56 ag56 ze56 sz57 ag57 ze57 sz58 ag58 ze58 sz59 ag59 ze59 sz60 ag60 ze60 sz61 ag61 ze61 sz62 ag62 ze62 u63 sz63 ag63 eo63 es63 gr63 df63 ze63 u64 sz64 ag64 eo64 es64 gr64 df64 ze64 sz65 ag65 ze65 fa65_0 fg65_0 fa65_1 fg65_1 sz66 ag66 ze66 fa66_0 fg66_0 fa66_1 fg66_1 sz68 ag68 ze68 sz69 ag69 ze69 sz70 ag70 ze70 sz71 ag71 ze71 sz72 ag72 ze72 sz73 ag73 ze73 sz74 ag74 ze74 sz75 ag75 ze75 sz76 ag76 ze76 sz77 ag77 ze77 u78 sz78 ag78 eo78 es78 gr78 df78 ze78 sz79 ag79 ze79 sz80 ag80 ze80 sz81 ag81 ze81 sz82 ag82 ze82 sz83 ag83 ze83 sz84 ag84 ze84 sz85 ag85 ze85 sz86 ag86 ze86 sz87 ag87 ze87 sz88 ag88 ze88 u89 sz89 ag89 eo89 es89 gr89 df89 ze89 sz90 ag90 ze90 u91 sz91 ag91 eo91 es91 gr91 df91 ze91 sz92 ag92 ze92 sz93 ag93 ze93 sz94 ag94 ze94 sz95 ag95 ze95 fa95_0 fg95_0 fa95_1 fg95_1 fa95_2 fg95_2 sz96 ag96 ze96 fa96_0 fg96_0 fa96_1 fg96_1 fa96_2 fg96_2 u97 sz97 ag97 eo97 es97 gr97 df97 ze97 sz98 ag98 ze98 sz99 ag99 ze99 sz100 ag100 ze100 sz101 ag101 ze101 sz102 ag102 ze102 sz103 ag103 ze103 sz104 ag104 ze104 u105 sz105 ag105 ze105 sz106 ag106 ze106 fa106_0 fg106_0 fa106_1 fg106_1 ev106 eg106 sz107 ag107 ze107 fa107_0 fg107_0 fa107_1 fg107_1 ev107 eg107 sz108 ag108 ze108 u109 sz109 ag109 eo109 es109 gr109 df109 ze109 sz111 ag111 ze111 sz112 ag112 ze112 sz113 ag113 ze113 sz114 ag114 ze114 sz115 ag115 ze115 u116 sz116 ag116 eo116 es116 gr116 df116 ze116 sz118 ag118 ze118 u119 sz119 ag119 eo119 es119 ze119 sz120 ag120 ze120 sz121 ag121 ze121 sz122 ag122 ze122 u123 sz123 ag123 u125 sz125 ag125 u126 sz126 ag126 eo126 es126 ze126 sz127 ag127 ze127 sz128 ag128 ze128 sz129 ag129 ze129 sz130 ag130 ze130 u131 sz131 ag131 u132 sz132 ag132 sz133 ag133 ze133 sz134 ag134 ze134 sz135 ag135 ze135 sz136 ag136 ze136 sz137 ag137 ze137 sz138 ag138 ze138 fa138_0 fg138_0 fa138_1 fg138_1 fa138_2 fg138_2 fa138_3 fg138_3 sz139 ag139 ze139 fa139_0 fg139_0 fa139_1 fg139_1 fa139_2 fg139_2 fa139_3 fg139_3 u140 sz140 ag140 eo140 es140 ze140 sz141 ag141 ze141 sz142 ag142 ze142 sz143 ag143 ze143 u144 sz144 ag144 ze144 u145 sz145 ag145 ze145 u146 sz146 ag146 ze146 sz147 ag147 ze147 u148 sz148 ag148 ze148 u149 sz149 ag149 ze149 u150 sz150 ag150 ze150 sz151 ag151 ze151 fa151_0 fg151_0 fa151_1 fg151_1 fa151_2 fg151_2 fa151_3 fg151_3 fa151_4 fg151_4 fa151_5 fg151_5 fa151_6 fg151_6 fa151_7 fg151_7 fa151_8 fg151_8 fa151_9 fg151_9 fa151_10 fg151_10 sz152 ag152 ze152 fa152_0 fg152_0 fa152_1 fg152_1 fa152_2 fg152_2 fa152_3 fg152_3 fa152_4 fg152_4 fa152_5 fg152_5 fa152_6 fg152_6 fa152_7 fg152_7 fa152_8 fg152_8 fa152_9 fg152_9 fa152_10 fg152_10 ev3 ev119 ev126 by3 by4 by9 by40 by42 by49 by51 by66 by91 by96 by107 by119
attribute [go_sem high] bd7 xb7 bd8 xb8 bd13 xb13 bd14 xb14 bd18 xb18 bd19 xb19 bd23 xb23 bd24 xb24 bd28 xb28 bd29 xb29 bd36 xb36 bd37 xb37 bd39 xb39 bd40 xb40 bd41 xb41 bd42 xb42 bd46 xb46 bd48 xb48 bd49 xb49 bd50 xb50 bd51 xb51 bd65 xb65 bd66 xb66 bd95 xb95 bd96 xb96 bd106 xb106 bd107 xb107 xa119 xa126 bd138 xb138 bd139 xb139 xa140 bd151 xb151 bd152 xb152
end Go.Ev
